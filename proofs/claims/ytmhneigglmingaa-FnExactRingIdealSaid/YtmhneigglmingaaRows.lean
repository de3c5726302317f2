/-
  No cell of these rows narrows 'for every input' (looked for: loops, veiled, ifaces, maps, wideKeys, modest, calm, conditions, laid).
  DERIVED. THE GIVEN ROWS OF THIS SEAT. 6 by the template 'for every input the law returns true; each argument reads behind the call as it read before'; 0 by the template 'total and deterministic' (their statements: YtmhneigglmingaaTotals.lean).
  GIVEN WITH THE SEED: the statements are not yours to turn. If you find one false, say at which input.
  Laid BY PROGRAM, IN A SANDBOX (cutbox-rows.mjs): the forced cells as the released guide's own fill.sh prints them over the translation 01e39703691891b2… (all of the seat's roots in one cut). By AI agents, Wed Nov 11 2026. No macro, syntax, notation, axiom, sorry.
-/
import Derived.Test.YtmhneigglmingaaChecked
import GoSem.Claim
import GoSem.ClaimJoined
import GoSem.ClaimMapViews
import Derived.JoinedTies
import Derived.KernelRfl
namespace Go.Proofs.Ytmhneigglmingaa
/- THE CELL 'sum', in the pinned program and in every row, IS THE sha256 OF THE DUMP (.gsa) THAT YtmhneigglmingaaProg.lean LOADS. Nothing in Lean hashes anything: it is a label: what it is worth is what the hold of that sum in a sandbox is worth. -/
noncomputable def Try.pinned : Pinned := { name := "ytmhneigglmingaa", sum := "01e39703691891b26ea89f2fdfe4af8b80bf8104c84af2b89c9c926bea568854", checked := Try.checked }
namespace Rows
def none {H : Type} : Left H := { results := [], args := [] }

/-- 'laws.FnExactRingValid': WHATEVER THE INPUT: true; the input reads as it did. -/
def fnExactRingValidSpec : ChangeSpec := { name := "fnExactRingValid", fn := fun _ => fun
  | [d] => { results := [.lit (.bool true)], args := [d] }
  | _ => none }
def fnExactRingValidRow : OpenClaim := { program := "ytmhneigglmingaa", sum := "01e39703691891b26ea89f2fdfe4af8b80bf8104c84af2b89c9c926bea568854", func := "loop.example/ringoverlay/laws.FnExactRingValid", spec := "fnExactRingValid", apart := false }
def FnExactRingValidSaid : Prop := fnExactRingValidRow.holds Try.pinned (OpenSpec.ofChange fnExactRingValidSpec)

/-- ITS FALSE NEIGHBOUR: 'it returns false'. Refute it at one input. -/
def fnExactRingValidWrong : ChangeSpec := { name := "fnExactRingValid", fn := fun _ => fun
  | [d] => { results := [.lit (.bool false)], args := [d] }
  | _ => none }
def FnExactRingValidWrongFalsely : Prop := fnExactRingValidRow.holds Try.pinned (OpenSpec.ofChange fnExactRingValidWrong)

/-- 'laws.FnExactRingNew': WHATEVER THE INPUT: true; the input reads as it did. -/
def fnExactRingNewSpec : ChangeSpec := { name := "fnExactRingNew", fn := fun _ => fun
  | [d] => { results := [.lit (.bool true)], args := [d] }
  | _ => none }
def fnExactRingNewRow : OpenClaim := { program := "ytmhneigglmingaa", sum := "01e39703691891b26ea89f2fdfe4af8b80bf8104c84af2b89c9c926bea568854", func := "loop.example/ringoverlay/laws.FnExactRingNew", spec := "fnExactRingNew", apart := false }
def FnExactRingNewSaid : Prop := fnExactRingNewRow.holds Try.pinned (OpenSpec.ofChange fnExactRingNewSpec)

/-- ITS FALSE NEIGHBOUR: 'it returns false'. Refute it at one input. -/
def fnExactRingNewWrong : ChangeSpec := { name := "fnExactRingNew", fn := fun _ => fun
  | [d] => { results := [.lit (.bool false)], args := [d] }
  | _ => none }
def FnExactRingNewWrongFalsely : Prop := fnExactRingNewRow.holds Try.pinned (OpenSpec.ofChange fnExactRingNewWrong)

/-- 'laws.FnExactRingIds': WHATEVER THE INPUT: true; the input reads as it did. -/
def fnExactRingIdsSpec : ChangeSpec := { name := "fnExactRingIds", fn := fun _ => fun
  | [d] => { results := [.lit (.bool true)], args := [d] }
  | _ => none }
def fnExactRingIdsRow : OpenClaim := { program := "ytmhneigglmingaa", sum := "01e39703691891b26ea89f2fdfe4af8b80bf8104c84af2b89c9c926bea568854", func := "loop.example/ringoverlay/laws.FnExactRingIds", spec := "fnExactRingIds", apart := false }
def FnExactRingIdsSaid : Prop := fnExactRingIdsRow.holds Try.pinned (OpenSpec.ofChange fnExactRingIdsSpec)

/-- ITS FALSE NEIGHBOUR: 'it returns false'. Refute it at one input. -/
def fnExactRingIdsWrong : ChangeSpec := { name := "fnExactRingIds", fn := fun _ => fun
  | [d] => { results := [.lit (.bool false)], args := [d] }
  | _ => none }
def FnExactRingIdsWrongFalsely : Prop := fnExactRingIdsRow.holds Try.pinned (OpenSpec.ofChange fnExactRingIdsWrong)

/-- 'laws.FnExactRingPrincipals': WHATEVER THE INPUT: true; the input reads as it did. -/
def fnExactRingPrincipalsSpec : ChangeSpec := { name := "fnExactRingPrincipals", fn := fun _ => fun
  | [d] => { results := [.lit (.bool true)], args := [d] }
  | _ => none }
def fnExactRingPrincipalsRow : OpenClaim := { program := "ytmhneigglmingaa", sum := "01e39703691891b26ea89f2fdfe4af8b80bf8104c84af2b89c9c926bea568854", func := "loop.example/ringoverlay/laws.FnExactRingPrincipals", spec := "fnExactRingPrincipals", unfollowed := true, recurses := true, apart := false }
def FnExactRingPrincipalsSaid : Prop := fnExactRingPrincipalsRow.holds Try.pinned (OpenSpec.ofChange fnExactRingPrincipalsSpec)

/-- ITS FALSE NEIGHBOUR: 'it returns false'. Refute it at one input. -/
def fnExactRingPrincipalsWrong : ChangeSpec := { name := "fnExactRingPrincipals", fn := fun _ => fun
  | [d] => { results := [.lit (.bool false)], args := [d] }
  | _ => none }
def FnExactRingPrincipalsWrongFalsely : Prop := fnExactRingPrincipalsRow.holds Try.pinned (OpenSpec.ofChange fnExactRingPrincipalsWrong)

/-- 'laws.FnExactRingIdeal': WHATEVER THE INPUT: true; the input reads as it did. -/
def fnExactRingIdealSpec : ChangeSpec := { name := "fnExactRingIdeal", fn := fun _ => fun
  | [d] => { results := [.lit (.bool true)], args := [d] }
  | _ => none }
def fnExactRingIdealRow : OpenClaim := { program := "ytmhneigglmingaa", sum := "01e39703691891b26ea89f2fdfe4af8b80bf8104c84af2b89c9c926bea568854", func := "loop.example/ringoverlay/laws.FnExactRingIdeal", spec := "fnExactRingIdeal", unfollowed := true, recurses := true, apart := false }
def FnExactRingIdealSaid : Prop := fnExactRingIdealRow.holds Try.pinned (OpenSpec.ofChange fnExactRingIdealSpec)

/-- ITS FALSE NEIGHBOUR: 'it returns false'. Refute it at one input. -/
def fnExactRingIdealWrong : ChangeSpec := { name := "fnExactRingIdeal", fn := fun _ => fun
  | [d] => { results := [.lit (.bool false)], args := [d] }
  | _ => none }
def FnExactRingIdealWrongFalsely : Prop := fnExactRingIdealRow.holds Try.pinned (OpenSpec.ofChange fnExactRingIdealWrong)

/-- 'laws.FnExactRingSafe': WHATEVER THE INPUT: true; the input reads as it did. -/
def fnExactRingSafeSpec : ChangeSpec := { name := "fnExactRingSafe", fn := fun _ => fun
  | [d] => { results := [.lit (.bool true)], args := [d] }
  | _ => none }
def fnExactRingSafeRow : OpenClaim := { program := "ytmhneigglmingaa", sum := "01e39703691891b26ea89f2fdfe4af8b80bf8104c84af2b89c9c926bea568854", func := "loop.example/ringoverlay/laws.FnExactRingSafe", spec := "fnExactRingSafe", unfollowed := true, recurses := true, apart := false }
def FnExactRingSafeSaid : Prop := fnExactRingSafeRow.holds Try.pinned (OpenSpec.ofChange fnExactRingSafeSpec)

/-- ITS FALSE NEIGHBOUR: 'it returns false'. Refute it at one input. -/
def fnExactRingSafeWrong : ChangeSpec := { name := "fnExactRingSafe", fn := fun _ => fun
  | [d] => { results := [.lit (.bool false)], args := [d] }
  | _ => none }
def FnExactRingSafeWrongFalsely : Prop := fnExactRingSafeRow.holds Try.pinned (OpenSpec.ofChange fnExactRingSafeWrong)

/- THE SECOND FORM. 'bulk': how many values and letters a reading holds, each counted each time it is reached (what is shared counts as often as it is met; a slice's spare places count too). A statement '..UptoSaid' is the law's where the arguments, and the package variables that the reading takes, are together of bulk at most 1048576: NARROWER than '..Said'. Prove '..Said' where nothing that the law and all that it calls make is longer than what came in: it says more and counts as full. Else prove '..UptoSaid'. A law counts once. -/
mutual
def uptoBulk {H : Type} : DataW H → Nat
  | .lit (.string bytes) => bytes.length + 1
  | .lit _ => 1
  | .nil => 1
  | .ptr d => uptoBulk d + 1
  | .slice elems spare => uptoBulkAll elems + uptoBulkAll spare + 1
  | .agg parts => uptoBulkAll parts + 1
  | .iface _ d => uptoBulk d + 1
  | .map entries => uptoBulkEntries entries + 1
  | .held _ => 1
def uptoBulkAll {H : Type} : List (DataW H) → Nat
  | [] => 0
  | d :: r => uptoBulk d + uptoBulkAll r
def uptoBulkEntries {H : Type} : List (Lit × DataW H) → Nat
  | [] => 0
  | x :: r => uptoBulkEntry x + uptoBulkEntries r
def uptoBulkEntry {H : Type} : Lit × DataW H → Nat
  | (.string bytes, d) => bytes.length + uptoBulk d + 1
  | (_, d) => uptoBulk d + 1
 end
def uptoSmall : (H : Type) → List (DataW H) → Bool := fun _ ds => decide (uptoBulkAll ds ≤ 1048576)
def OpenSpec.upto (s : _root_.Go.ChangeSpec) : _root_.Go.OpenSpec := { _root_.Go.OpenSpec.ofChange s with cond := some uptoSmall }

/-- 'laws.FnExactRingValid', WHERE WHAT IT READS IS OF BULK AT MOST 1048576: true; the input reads as it did. -/
def fnExactRingValidUptoRow : OpenClaim := { program := "ytmhneigglmingaa", sum := "01e39703691891b26ea89f2fdfe4af8b80bf8104c84af2b89c9c926bea568854", func := "loop.example/ringoverlay/laws.FnExactRingValid", spec := "fnExactRingValid", apart := false, narrowed := true }
def FnExactRingValidUptoSaid : Prop := fnExactRingValidUptoRow.holds Try.pinned (OpenSpec.upto fnExactRingValidSpec)

/-- 'laws.FnExactRingNew', WHERE WHAT IT READS IS OF BULK AT MOST 1048576: true; the input reads as it did. -/
def fnExactRingNewUptoRow : OpenClaim := { program := "ytmhneigglmingaa", sum := "01e39703691891b26ea89f2fdfe4af8b80bf8104c84af2b89c9c926bea568854", func := "loop.example/ringoverlay/laws.FnExactRingNew", spec := "fnExactRingNew", apart := false, narrowed := true }
def FnExactRingNewUptoSaid : Prop := fnExactRingNewUptoRow.holds Try.pinned (OpenSpec.upto fnExactRingNewSpec)

/-- 'laws.FnExactRingIds', WHERE WHAT IT READS IS OF BULK AT MOST 1048576: true; the input reads as it did. -/
def fnExactRingIdsUptoRow : OpenClaim := { program := "ytmhneigglmingaa", sum := "01e39703691891b26ea89f2fdfe4af8b80bf8104c84af2b89c9c926bea568854", func := "loop.example/ringoverlay/laws.FnExactRingIds", spec := "fnExactRingIds", apart := false, narrowed := true }
def FnExactRingIdsUptoSaid : Prop := fnExactRingIdsUptoRow.holds Try.pinned (OpenSpec.upto fnExactRingIdsSpec)

/-- 'laws.FnExactRingPrincipals', WHERE WHAT IT READS IS OF BULK AT MOST 1048576: true; the input reads as it did. -/
def fnExactRingPrincipalsUptoRow : OpenClaim := { program := "ytmhneigglmingaa", sum := "01e39703691891b26ea89f2fdfe4af8b80bf8104c84af2b89c9c926bea568854", func := "loop.example/ringoverlay/laws.FnExactRingPrincipals", spec := "fnExactRingPrincipals", unfollowed := true, recurses := true, apart := false, narrowed := true }
def FnExactRingPrincipalsUptoSaid : Prop := fnExactRingPrincipalsUptoRow.holds Try.pinned (OpenSpec.upto fnExactRingPrincipalsSpec)

/-- 'laws.FnExactRingIdeal', WHERE WHAT IT READS IS OF BULK AT MOST 1048576: true; the input reads as it did. -/
def fnExactRingIdealUptoRow : OpenClaim := { program := "ytmhneigglmingaa", sum := "01e39703691891b26ea89f2fdfe4af8b80bf8104c84af2b89c9c926bea568854", func := "loop.example/ringoverlay/laws.FnExactRingIdeal", spec := "fnExactRingIdeal", unfollowed := true, recurses := true, apart := false, narrowed := true }
def FnExactRingIdealUptoSaid : Prop := fnExactRingIdealUptoRow.holds Try.pinned (OpenSpec.upto fnExactRingIdealSpec)

/-- 'laws.FnExactRingSafe', WHERE WHAT IT READS IS OF BULK AT MOST 1048576: true; the input reads as it did. -/
def fnExactRingSafeUptoRow : OpenClaim := { program := "ytmhneigglmingaa", sum := "01e39703691891b26ea89f2fdfe4af8b80bf8104c84af2b89c9c926bea568854", func := "loop.example/ringoverlay/laws.FnExactRingSafe", spec := "fnExactRingSafe", unfollowed := true, recurses := true, apart := false, narrowed := true }
def FnExactRingSafeUptoSaid : Prop := fnExactRingSafeUptoRow.holds Try.pinned (OpenSpec.upto fnExactRingSafeSpec)

end Rows
end Go.Proofs.Ytmhneigglmingaa
