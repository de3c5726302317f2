/-
  No cell of these rows narrows 'for every input' (looked for: loops, veiled, ifaces, maps, wideKeys, modest, calm, conditions, laid).
  DERIVED. THE GIVEN ROWS OF THIS SEAT. 6 by the template 'for every input the law returns true; each argument reads behind the call as it read before'; 0 by the template 'total and deterministic' (their statements: YtnfpgipbgillaaaTotals.lean).
  GIVEN WITH THE SEED: the statements are not yours to turn. If you find one false, say at which input.
  Laid BY PROGRAM, IN A SANDBOX (cutbox-rows.mjs): the forced cells as the released guide's own fill.sh prints them over the translation ababdab830e6ca90… (all of the seat's roots in one cut). By AI agents, Wed Nov 11 2026. No macro, syntax, notation, axiom, sorry.
-/
import Derived.Test.YtnfpgipbgillaaaChecked
import GoSem.Claim
import GoSem.ClaimJoined
import GoSem.ClaimMapViews
import Derived.JoinedTies
import Derived.KernelRfl
namespace Go.Proofs.Ytnfpgipbgillaaa
/- THE CELL 'sum', in the pinned program and in every row, IS THE sha256 OF THE DUMP (.gsa) THAT YtnfpgipbgillaaaProg.lean LOADS. Nothing in Lean hashes anything: it is a label: what it is worth is what the hold of that sum in a sandbox is worth. -/
noncomputable def Try.pinned : Pinned := { name := "ytnfpgipbgillaaa", sum := "ababdab830e6ca90c26bb63895ec579582fec9d7eb17c9f3b1faf656bfbb614c", checked := Try.checked }
namespace Rows
def none {H : Type} : Left H := { results := [], args := [] }

/-- 'laws.FnExactRegisterValid': WHATEVER THE INPUT: true; the input reads as it did. -/
def fnExactRegisterValidSpec : ChangeSpec := { name := "fnExactRegisterValid", fn := fun _ => fun
  | [d] => { results := [.lit (.bool true)], args := [d] }
  | _ => none }
def fnExactRegisterValidRow : OpenClaim := { program := "ytnfpgipbgillaaa", sum := "ababdab830e6ca90c26bb63895ec579582fec9d7eb17c9f3b1faf656bfbb614c", func := "loop.example/ringoverlay/laws.FnExactRegisterValid", spec := "fnExactRegisterValid", apart := false }
def FnExactRegisterValidSaid : Prop := fnExactRegisterValidRow.holds Try.pinned (OpenSpec.ofChange fnExactRegisterValidSpec)

/-- ITS FALSE NEIGHBOUR: 'it returns false'. Refute it at one input. -/
def fnExactRegisterValidWrong : ChangeSpec := { name := "fnExactRegisterValid", fn := fun _ => fun
  | [d] => { results := [.lit (.bool false)], args := [d] }
  | _ => none }
def FnExactRegisterValidWrongFalsely : Prop := fnExactRegisterValidRow.holds Try.pinned (OpenSpec.ofChange fnExactRegisterValidWrong)

/-- 'laws.FnRegisterValid': WHATEVER THE INPUT: true; the input reads as it did. -/
def fnRegisterValidSpec : ChangeSpec := { name := "fnRegisterValid", fn := fun _ => fun
  | [d] => { results := [.lit (.bool true)], args := [d] }
  | _ => none }
def fnRegisterValidRow : OpenClaim := { program := "ytnfpgipbgillaaa", sum := "ababdab830e6ca90c26bb63895ec579582fec9d7eb17c9f3b1faf656bfbb614c", func := "loop.example/ringoverlay/laws.FnRegisterValid", spec := "fnRegisterValid", apart := false }
def FnRegisterValidSaid : Prop := fnRegisterValidRow.holds Try.pinned (OpenSpec.ofChange fnRegisterValidSpec)

/-- ITS FALSE NEIGHBOUR: 'it returns false'. Refute it at one input. -/
def fnRegisterValidWrong : ChangeSpec := { name := "fnRegisterValid", fn := fun _ => fun
  | [d] => { results := [.lit (.bool false)], args := [d] }
  | _ => none }
def FnRegisterValidWrongFalsely : Prop := fnRegisterValidRow.holds Try.pinned (OpenSpec.ofChange fnRegisterValidWrong)

/-- 'laws.FnExactRegisterLatest': WHATEVER THE INPUT: true; the input reads as it did. -/
def fnExactRegisterLatestSpec : ChangeSpec := { name := "fnExactRegisterLatest", fn := fun _ => fun
  | [d1, d2] => { results := [.lit (.bool true)], args := [d1, d2] }
  | _ => none }
def fnExactRegisterLatestRow : OpenClaim := { program := "ytnfpgipbgillaaa", sum := "ababdab830e6ca90c26bb63895ec579582fec9d7eb17c9f3b1faf656bfbb614c", func := "loop.example/ringoverlay/laws.FnExactRegisterLatest", spec := "fnExactRegisterLatest", apart := false }
def FnExactRegisterLatestSaid : Prop := fnExactRegisterLatestRow.holds Try.pinned (OpenSpec.ofChange fnExactRegisterLatestSpec)

/-- ITS FALSE NEIGHBOUR: 'it returns false'. Refute it at one input. -/
def fnExactRegisterLatestWrong : ChangeSpec := { name := "fnExactRegisterLatest", fn := fun _ => fun
  | [d1, d2] => { results := [.lit (.bool false)], args := [d1, d2] }
  | _ => none }
def FnExactRegisterLatestWrongFalsely : Prop := fnExactRegisterLatestRow.holds Try.pinned (OpenSpec.ofChange fnExactRegisterLatestWrong)

/-- 'laws.FnLatest': WHATEVER THE INPUT: true; the input reads as it did. -/
def fnLatestSpec : ChangeSpec := { name := "fnLatest", fn := fun _ => fun
  | [d] => { results := [.lit (.bool true)], args := [d] }
  | _ => none }
def fnLatestRow : OpenClaim := { program := "ytnfpgipbgillaaa", sum := "ababdab830e6ca90c26bb63895ec579582fec9d7eb17c9f3b1faf656bfbb614c", func := "loop.example/ringoverlay/laws.FnLatest", spec := "fnLatest", apart := false }
def FnLatestSaid : Prop := fnLatestRow.holds Try.pinned (OpenSpec.ofChange fnLatestSpec)

/-- ITS FALSE NEIGHBOUR: 'it returns false'. Refute it at one input. -/
def fnLatestWrong : ChangeSpec := { name := "fnLatest", fn := fun _ => fun
  | [d] => { results := [.lit (.bool false)], args := [d] }
  | _ => none }
def FnLatestWrongFalsely : Prop := fnLatestRow.holds Try.pinned (OpenSpec.ofChange fnLatestWrong)

/-- 'laws.FnMajority': WHATEVER THE INPUT: true; the input reads as it did. -/
def fnMajoritySpec : ChangeSpec := { name := "fnMajority", fn := fun _ => fun
  | [d1, d2] => { results := [.lit (.bool true)], args := [d1, d2] }
  | _ => none }
def fnMajorityRow : OpenClaim := { program := "ytnfpgipbgillaaa", sum := "ababdab830e6ca90c26bb63895ec579582fec9d7eb17c9f3b1faf656bfbb614c", func := "loop.example/ringoverlay/laws.FnMajority", spec := "fnMajority", apart := false }
def FnMajoritySaid : Prop := fnMajorityRow.holds Try.pinned (OpenSpec.ofChange fnMajoritySpec)

/-- ITS FALSE NEIGHBOUR: 'it returns false'. Refute it at one input. -/
def fnMajorityWrong : ChangeSpec := { name := "fnMajority", fn := fun _ => fun
  | [d1, d2] => { results := [.lit (.bool false)], args := [d1, d2] }
  | _ => none }
def FnMajorityWrongFalsely : Prop := fnMajorityRow.holds Try.pinned (OpenSpec.ofChange fnMajorityWrong)

/-- 'laws.FnLatestAll': WHATEVER THE INPUT: true; the input reads as it did. -/
def fnLatestAllSpec : ChangeSpec := { name := "fnLatestAll", fn := fun _ => fun
  | [d] => { results := [.lit (.bool true)], args := [d] }
  | _ => none }
def fnLatestAllRow : OpenClaim := { program := "ytnfpgipbgillaaa", sum := "ababdab830e6ca90c26bb63895ec579582fec9d7eb17c9f3b1faf656bfbb614c", func := "loop.example/ringoverlay/laws.FnLatestAll", spec := "fnLatestAll", apart := false }
def FnLatestAllSaid : Prop := fnLatestAllRow.holds Try.pinned (OpenSpec.ofChange fnLatestAllSpec)

/-- ITS FALSE NEIGHBOUR: 'it returns false'. Refute it at one input. -/
def fnLatestAllWrong : ChangeSpec := { name := "fnLatestAll", fn := fun _ => fun
  | [d] => { results := [.lit (.bool false)], args := [d] }
  | _ => none }
def FnLatestAllWrongFalsely : Prop := fnLatestAllRow.holds Try.pinned (OpenSpec.ofChange fnLatestAllWrong)

/- THE SECOND FORM. 'bulk': how many values and letters a reading holds, each counted each time it is reached (what is shared counts as often as it is met; a slice's spare places count too). A statement '..UptoSaid' is the law's where the arguments, and the package variables that the reading takes, are together of bulk at most 1048576: NARROWER than '..Said'. Prove '..Said' where nothing that the law and all that it calls make is longer than what came in: it says more and counts as full. Else prove '..UptoSaid'. A law counts once. -/
mutual
def uptoBulk {H : Type} : DataW H → Nat
  | .lit (.string bytes) => bytes.length + 1
  | .lit _ => 1
  | .nil => 1
  | .ptr d => uptoBulk d + 1
  | .slice elems spare => uptoBulkAll elems + uptoBulkAll spare + 1
  | .agg parts => uptoBulkAll parts + 1
  | .iface _ d => uptoBulk d + 1
  | .map entries => uptoBulkEntries entries + 1
  | .held _ => 1
def uptoBulkAll {H : Type} : List (DataW H) → Nat
  | [] => 0
  | d :: r => uptoBulk d + uptoBulkAll r
def uptoBulkEntries {H : Type} : List (Lit × DataW H) → Nat
  | [] => 0
  | x :: r => uptoBulkEntry x + uptoBulkEntries r
def uptoBulkEntry {H : Type} : Lit × DataW H → Nat
  | (.string bytes, d) => bytes.length + uptoBulk d + 1
  | (_, d) => uptoBulk d + 1
 end
def uptoSmall : (H : Type) → List (DataW H) → Bool := fun _ ds => decide (uptoBulkAll ds ≤ 1048576)
def OpenSpec.upto (s : _root_.Go.ChangeSpec) : _root_.Go.OpenSpec := { _root_.Go.OpenSpec.ofChange s with cond := some uptoSmall }

/-- 'laws.FnExactRegisterValid', WHERE WHAT IT READS IS OF BULK AT MOST 1048576: true; the input reads as it did. -/
def fnExactRegisterValidUptoRow : OpenClaim := { program := "ytnfpgipbgillaaa", sum := "ababdab830e6ca90c26bb63895ec579582fec9d7eb17c9f3b1faf656bfbb614c", func := "loop.example/ringoverlay/laws.FnExactRegisterValid", spec := "fnExactRegisterValid", apart := false, narrowed := true }
def FnExactRegisterValidUptoSaid : Prop := fnExactRegisterValidUptoRow.holds Try.pinned (OpenSpec.upto fnExactRegisterValidSpec)

/-- 'laws.FnRegisterValid', WHERE WHAT IT READS IS OF BULK AT MOST 1048576: true; the input reads as it did. -/
def fnRegisterValidUptoRow : OpenClaim := { program := "ytnfpgipbgillaaa", sum := "ababdab830e6ca90c26bb63895ec579582fec9d7eb17c9f3b1faf656bfbb614c", func := "loop.example/ringoverlay/laws.FnRegisterValid", spec := "fnRegisterValid", apart := false, narrowed := true }
def FnRegisterValidUptoSaid : Prop := fnRegisterValidUptoRow.holds Try.pinned (OpenSpec.upto fnRegisterValidSpec)

/-- 'laws.FnExactRegisterLatest', WHERE WHAT IT READS IS OF BULK AT MOST 1048576: true; the input reads as it did. -/
def fnExactRegisterLatestUptoRow : OpenClaim := { program := "ytnfpgipbgillaaa", sum := "ababdab830e6ca90c26bb63895ec579582fec9d7eb17c9f3b1faf656bfbb614c", func := "loop.example/ringoverlay/laws.FnExactRegisterLatest", spec := "fnExactRegisterLatest", apart := false, narrowed := true }
def FnExactRegisterLatestUptoSaid : Prop := fnExactRegisterLatestUptoRow.holds Try.pinned (OpenSpec.upto fnExactRegisterLatestSpec)

/-- 'laws.FnLatest', WHERE WHAT IT READS IS OF BULK AT MOST 1048576: true; the input reads as it did. -/
def fnLatestUptoRow : OpenClaim := { program := "ytnfpgipbgillaaa", sum := "ababdab830e6ca90c26bb63895ec579582fec9d7eb17c9f3b1faf656bfbb614c", func := "loop.example/ringoverlay/laws.FnLatest", spec := "fnLatest", apart := false, narrowed := true }
def FnLatestUptoSaid : Prop := fnLatestUptoRow.holds Try.pinned (OpenSpec.upto fnLatestSpec)

/-- 'laws.FnMajority', WHERE WHAT IT READS IS OF BULK AT MOST 1048576: true; the input reads as it did. -/
def fnMajorityUptoRow : OpenClaim := { program := "ytnfpgipbgillaaa", sum := "ababdab830e6ca90c26bb63895ec579582fec9d7eb17c9f3b1faf656bfbb614c", func := "loop.example/ringoverlay/laws.FnMajority", spec := "fnMajority", apart := false, narrowed := true }
def FnMajorityUptoSaid : Prop := fnMajorityUptoRow.holds Try.pinned (OpenSpec.upto fnMajoritySpec)

/-- 'laws.FnLatestAll', WHERE WHAT IT READS IS OF BULK AT MOST 1048576: true; the input reads as it did. -/
def fnLatestAllUptoRow : OpenClaim := { program := "ytnfpgipbgillaaa", sum := "ababdab830e6ca90c26bb63895ec579582fec9d7eb17c9f3b1faf656bfbb614c", func := "loop.example/ringoverlay/laws.FnLatestAll", spec := "fnLatestAll", apart := false, narrowed := true }
def FnLatestAllUptoSaid : Prop := fnLatestAllUptoRow.holds Try.pinned (OpenSpec.upto fnLatestAllSpec)

end Rows
end Go.Proofs.Ytnfpgipbgillaaa
