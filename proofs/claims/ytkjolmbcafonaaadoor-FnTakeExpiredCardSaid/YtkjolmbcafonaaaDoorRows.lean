/-
  NARROWER THAN 'FOR EVERY INPUT', by the rows' own cells (each row's printed sentence says how): FnTakeOnce: ifaces, laid · FnTakeExpired: ifaces, laid · FnTakeRange: ifaces, laid.
  DERIVED. THE GIVEN ROWS OF THIS SEAT. 3 by the template 'for every input the law returns true; each argument reads behind the call as it read before'; 0 by the template 'total and deterministic' (their statements: YtkjolmbcafonaaaDoorTotals.lean).
  GIVEN WITH THE SEED: the statements are not yours to turn. If you find one false, say at which input.
  Laid BY PROGRAM, IN A SANDBOX (cutbox-rows.mjs): the forced cells as the released guide's own fill.sh prints them over the translation 48db74ed8f417d48… (all of the seat's roots in one cut). By AI agents, Wed Nov 11 2026. No macro, syntax, notation, axiom, sorry.
-/
import Derived.Test.YtkjolmbcafonaaaDoorChecked
import GoSem.Claim
import GoSem.ClaimJoined
import GoSem.ClaimMapViews
import Derived.JoinedTies
import Derived.KernelRfl
namespace Go.Proofs.YtkjolmbcafonaaaDoor
/- THE CELL 'sum', in the pinned program and in every row, IS THE sha256 OF THE DUMP (.gsa) THAT YtkjolmbcafonaaaDoorProg.lean LOADS. Nothing in Lean hashes anything: it is a label: what it is worth is what the hold of that sum in a sandbox is worth. -/
noncomputable def Tryd.pinned : Pinned := { name := "ytkjolmbcafonaaadoor", sum := "48db74ed8f417d489213bf111f862b457ddc67a6aae48f17830929e7c3f099d0", checked := Tryd.checked }
namespace Rows
def none {H : Type} : Left H := { results := [], args := [] }

/- WHAT THE LISTED PACKAGE-LEVEL VARIABLES READ AS WHEN THE CALL BEGINS. Each datum BY PROGRAM (the guide's laid-datum.mjs) off the statement by which the dump's own 'gosem.cut.vars' lays the variable. In a bare row this is a premise. The card (YtkjolmbcafonaaaDoorCards.lean) ties it to the program's text. -/
def laid_loop_example_ringoverlay_impl_errArgs {H : Type} : DataW H := .iface "*errors.errorString" (.ptr (.agg [.lit (.string [97, 114, 103, 117, 109, 101, 110, 116, 115])]))
def laid_loop_example_ringoverlay_impl_errRefused {H : Type} : DataW H := .iface "*errors.errorString" (.ptr (.agg [.lit (.string [114, 101, 102, 117, 115, 101, 100])]))

/-- 'laws.FnTakeOnce': WHATEVER THE INPUT: true; the input reads as it did. -/
def fnTakeOnceSpec : ChangeSpec := { name := "fnTakeOnce", vars := ["loop.example/ringoverlay/impl.errArgs", "loop.example/ringoverlay/impl.errRefused"], fn := fun _ => fun
  | [d1, d2, g1, g2] => { results := [.lit (.bool true)], args := [d1, d2], vars := [g1, g2] }
  | _ => none }
def fnTakeOnceRow : OpenClaim := { program := "ytkjolmbcafonaaadoor", sum := "48db74ed8f417d489213bf111f862b457ddc67a6aae48f17830929e7c3f099d0", func := "loop.example/ringoverlay/laws.FnTakeOnce", spec := "fnTakeOnce", inPlace := ["internal/reflectlite.TypeOf"], unfollowed := true, recurses := true, named := ["loop.example/ringoverlay/impl.errArgs", "loop.example/ringoverlay/impl.errRefused"], ifaces := true, apart := false, laid := [("loop.example/ringoverlay/impl.errArgs", laid_loop_example_ringoverlay_impl_errArgs), ("loop.example/ringoverlay/impl.errRefused", laid_loop_example_ringoverlay_impl_errRefused)] }
def FnTakeOnceSaid : Prop := fnTakeOnceRow.holds Tryd.pinned (OpenSpec.ofChange fnTakeOnceSpec)

/-- ITS FALSE NEIGHBOUR: 'it returns false'. Refute it at one input. -/
def fnTakeOnceWrong : ChangeSpec := { name := "fnTakeOnce", vars := ["loop.example/ringoverlay/impl.errArgs", "loop.example/ringoverlay/impl.errRefused"], fn := fun _ => fun
  | [d1, d2, g1, g2] => { results := [.lit (.bool false)], args := [d1, d2], vars := [g1, g2] }
  | _ => none }
def FnTakeOnceWrongFalsely : Prop := fnTakeOnceRow.holds Tryd.pinned (OpenSpec.ofChange fnTakeOnceWrong)

/-- 'laws.FnTakeExpired': WHATEVER THE INPUT: true; the input reads as it did. -/
def fnTakeExpiredSpec : ChangeSpec := { name := "fnTakeExpired", vars := ["loop.example/ringoverlay/impl.errArgs", "loop.example/ringoverlay/impl.errRefused"], fn := fun _ => fun
  | [d, g1, g2] => { results := [.lit (.bool true)], args := [d], vars := [g1, g2] }
  | _ => none }
def fnTakeExpiredRow : OpenClaim := { program := "ytkjolmbcafonaaadoor", sum := "48db74ed8f417d489213bf111f862b457ddc67a6aae48f17830929e7c3f099d0", func := "loop.example/ringoverlay/laws.FnTakeExpired", spec := "fnTakeExpired", inPlace := ["internal/reflectlite.TypeOf"], unfollowed := true, recurses := true, named := ["loop.example/ringoverlay/impl.errArgs", "loop.example/ringoverlay/impl.errRefused"], ifaces := true, apart := false, laid := [("loop.example/ringoverlay/impl.errArgs", laid_loop_example_ringoverlay_impl_errArgs), ("loop.example/ringoverlay/impl.errRefused", laid_loop_example_ringoverlay_impl_errRefused)] }
def FnTakeExpiredSaid : Prop := fnTakeExpiredRow.holds Tryd.pinned (OpenSpec.ofChange fnTakeExpiredSpec)

/-- ITS FALSE NEIGHBOUR: 'it returns false'. Refute it at one input. -/
def fnTakeExpiredWrong : ChangeSpec := { name := "fnTakeExpired", vars := ["loop.example/ringoverlay/impl.errArgs", "loop.example/ringoverlay/impl.errRefused"], fn := fun _ => fun
  | [d, g1, g2] => { results := [.lit (.bool false)], args := [d], vars := [g1, g2] }
  | _ => none }
def FnTakeExpiredWrongFalsely : Prop := fnTakeExpiredRow.holds Tryd.pinned (OpenSpec.ofChange fnTakeExpiredWrong)

/-- 'laws.FnTakeRange': WHATEVER THE INPUT: true; the input reads as it did. -/
def fnTakeRangeSpec : ChangeSpec := { name := "fnTakeRange", vars := ["loop.example/ringoverlay/impl.errArgs", "loop.example/ringoverlay/impl.errRefused"], fn := fun _ => fun
  | [d, g1, g2] => { results := [.lit (.bool true)], args := [d], vars := [g1, g2] }
  | _ => none }
def fnTakeRangeRow : OpenClaim := { program := "ytkjolmbcafonaaadoor", sum := "48db74ed8f417d489213bf111f862b457ddc67a6aae48f17830929e7c3f099d0", func := "loop.example/ringoverlay/laws.FnTakeRange", spec := "fnTakeRange", inPlace := ["internal/reflectlite.TypeOf"], unfollowed := true, recurses := true, named := ["loop.example/ringoverlay/impl.errArgs", "loop.example/ringoverlay/impl.errRefused"], ifaces := true, apart := false, laid := [("loop.example/ringoverlay/impl.errArgs", laid_loop_example_ringoverlay_impl_errArgs), ("loop.example/ringoverlay/impl.errRefused", laid_loop_example_ringoverlay_impl_errRefused)] }
def FnTakeRangeSaid : Prop := fnTakeRangeRow.holds Tryd.pinned (OpenSpec.ofChange fnTakeRangeSpec)

/-- ITS FALSE NEIGHBOUR: 'it returns false'. Refute it at one input. -/
def fnTakeRangeWrong : ChangeSpec := { name := "fnTakeRange", vars := ["loop.example/ringoverlay/impl.errArgs", "loop.example/ringoverlay/impl.errRefused"], fn := fun _ => fun
  | [d, g1, g2] => { results := [.lit (.bool false)], args := [d], vars := [g1, g2] }
  | _ => none }
def FnTakeRangeWrongFalsely : Prop := fnTakeRangeRow.holds Tryd.pinned (OpenSpec.ofChange fnTakeRangeWrong)

/- THE SECOND FORM. 'bulk': how many values and letters a reading holds, each counted each time it is reached (what is shared counts as often as it is met; a slice's spare places count too). A statement '..UptoSaid' is the law's where the arguments, and the package variables that the reading takes, are together of bulk at most 1048576: NARROWER than '..Said'. Prove '..Said' where nothing that the law and all that it calls make is longer than what came in: it says more and counts as full. Else prove '..UptoSaid'. A law counts once. -/
mutual
def uptoBulk {H : Type} : DataW H → Nat
  | .lit (.string bytes) => bytes.length + 1
  | .lit _ => 1
  | .nil => 1
  | .ptr d => uptoBulk d + 1
  | .slice elems spare => uptoBulkAll elems + uptoBulkAll spare + 1
  | .agg parts => uptoBulkAll parts + 1
  | .iface _ d => uptoBulk d + 1
  | .map entries => uptoBulkEntries entries + 1
  | .held _ => 1
def uptoBulkAll {H : Type} : List (DataW H) → Nat
  | [] => 0
  | d :: r => uptoBulk d + uptoBulkAll r
def uptoBulkEntries {H : Type} : List (Lit × DataW H) → Nat
  | [] => 0
  | x :: r => uptoBulkEntry x + uptoBulkEntries r
def uptoBulkEntry {H : Type} : Lit × DataW H → Nat
  | (.string bytes, d) => bytes.length + uptoBulk d + 1
  | (_, d) => uptoBulk d + 1
 end
def uptoSmall : (H : Type) → List (DataW H) → Bool := fun _ ds => decide (uptoBulkAll ds ≤ 1048576)
def OpenSpec.upto (s : _root_.Go.ChangeSpec) : _root_.Go.OpenSpec := { _root_.Go.OpenSpec.ofChange s with cond := some uptoSmall }

/-- 'laws.FnTakeOnce', WHERE WHAT IT READS IS OF BULK AT MOST 1048576: true; the input reads as it did. -/
def fnTakeOnceUptoRow : OpenClaim := { program := "ytkjolmbcafonaaadoor", sum := "48db74ed8f417d489213bf111f862b457ddc67a6aae48f17830929e7c3f099d0", func := "loop.example/ringoverlay/laws.FnTakeOnce", spec := "fnTakeOnce", inPlace := ["internal/reflectlite.TypeOf"], unfollowed := true, recurses := true, named := ["loop.example/ringoverlay/impl.errArgs", "loop.example/ringoverlay/impl.errRefused"], ifaces := true, apart := false, laid := [("loop.example/ringoverlay/impl.errArgs", laid_loop_example_ringoverlay_impl_errArgs), ("loop.example/ringoverlay/impl.errRefused", laid_loop_example_ringoverlay_impl_errRefused)], narrowed := true }
def FnTakeOnceUptoSaid : Prop := fnTakeOnceUptoRow.holds Tryd.pinned (OpenSpec.upto fnTakeOnceSpec)

/-- 'laws.FnTakeExpired', WHERE WHAT IT READS IS OF BULK AT MOST 1048576: true; the input reads as it did. -/
def fnTakeExpiredUptoRow : OpenClaim := { program := "ytkjolmbcafonaaadoor", sum := "48db74ed8f417d489213bf111f862b457ddc67a6aae48f17830929e7c3f099d0", func := "loop.example/ringoverlay/laws.FnTakeExpired", spec := "fnTakeExpired", inPlace := ["internal/reflectlite.TypeOf"], unfollowed := true, recurses := true, named := ["loop.example/ringoverlay/impl.errArgs", "loop.example/ringoverlay/impl.errRefused"], ifaces := true, apart := false, laid := [("loop.example/ringoverlay/impl.errArgs", laid_loop_example_ringoverlay_impl_errArgs), ("loop.example/ringoverlay/impl.errRefused", laid_loop_example_ringoverlay_impl_errRefused)], narrowed := true }
def FnTakeExpiredUptoSaid : Prop := fnTakeExpiredUptoRow.holds Tryd.pinned (OpenSpec.upto fnTakeExpiredSpec)

/-- 'laws.FnTakeRange', WHERE WHAT IT READS IS OF BULK AT MOST 1048576: true; the input reads as it did. -/
def fnTakeRangeUptoRow : OpenClaim := { program := "ytkjolmbcafonaaadoor", sum := "48db74ed8f417d489213bf111f862b457ddc67a6aae48f17830929e7c3f099d0", func := "loop.example/ringoverlay/laws.FnTakeRange", spec := "fnTakeRange", inPlace := ["internal/reflectlite.TypeOf"], unfollowed := true, recurses := true, named := ["loop.example/ringoverlay/impl.errArgs", "loop.example/ringoverlay/impl.errRefused"], ifaces := true, apart := false, laid := [("loop.example/ringoverlay/impl.errArgs", laid_loop_example_ringoverlay_impl_errArgs), ("loop.example/ringoverlay/impl.errRefused", laid_loop_example_ringoverlay_impl_errRefused)], narrowed := true }
def FnTakeRangeUptoSaid : Prop := fnTakeRangeUptoRow.holds Tryd.pinned (OpenSpec.upto fnTakeRangeSpec)

end Rows
end Go.Proofs.YtkjolmbcafonaaaDoor
