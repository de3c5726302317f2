/-
  No cell of these rows narrows 'for every input' (looked for: loops, veiled, ifaces, maps, wideKeys, modest, calm, conditions, laid).
  DERIVED. THE GIVEN ROWS OF THIS SEAT. 12 by the template 'for every input the law returns true; each argument reads behind the call as it read before'; 0 by the template 'total and deterministic' (their statements: YtgolbmkjpgflgaaTotals.lean).
  GIVEN WITH THE SEED: the statements are not yours to turn. If you find one false, say at which input.
  Laid BY PROGRAM, IN A SANDBOX (cutbox-rows.mjs): the forced cells as the released guide's own fill.sh prints them over the translation 26218a75f5083e68… (all of the seat's roots in one cut). By AI agents, Wed Nov 11 2026. No macro, syntax, notation, axiom, sorry.
-/
import Derived.Test.YtgolbmkjpgflgaaChecked
import GoSem.Claim
import GoSem.ClaimJoined
import GoSem.ClaimMapViews
import Derived.JoinedTies
import Derived.KernelRfl
namespace Go.Proofs.Ytgolbmkjpgflgaa
/- THE CELL 'sum', in the pinned program and in every row, IS THE sha256 OF THE DUMP (.gsa) THAT YtgolbmkjpgflgaaProg.lean LOADS. Nothing in Lean hashes anything: it is a label: what it is worth is what the hold of that sum in a sandbox is worth. -/
noncomputable def Try.pinned : Pinned := { name := "ytgolbmkjpgflgaa", sum := "26218a75f5083e684da0d91665caa9988580ccf503ab067523ce5ed8fe6c29bb", checked := Try.checked }
namespace Rows
def none {H : Type} : Left H := { results := [], args := [] }

/-- 'laws.FnExactConstants': WHATEVER THE INPUT: true; the input reads as it did. -/
def fnExactConstantsSpec : ChangeSpec := { name := "fnExactConstants", fn := fun _ => fun
  | [] => { results := [.lit (.bool true)], args := [] }
  | _ => none }
def fnExactConstantsRow : OpenClaim := { program := "ytgolbmkjpgflgaa", sum := "26218a75f5083e684da0d91665caa9988580ccf503ab067523ce5ed8fe6c29bb", func := "loop.example/ringoverlay/laws.FnExactConstants", spec := "fnExactConstants", apart := false }
def FnExactConstantsSaid : Prop := fnExactConstantsRow.holds Try.pinned (OpenSpec.ofChange fnExactConstantsSpec)

/-- ITS FALSE NEIGHBOUR: 'it returns false'. Refute it at one input. -/
def fnExactConstantsWrong : ChangeSpec := { name := "fnExactConstants", fn := fun _ => fun
  | [] => { results := [.lit (.bool false)], args := [] }
  | _ => none }
def FnExactConstantsWrongFalsely : Prop := fnExactConstantsRow.holds Try.pinned (OpenSpec.ofChange fnExactConstantsWrong)

/-- 'laws.FnExactCircleDistance': WHATEVER THE INPUT: true; the input reads as it did. -/
def fnExactCircleDistanceSpec : ChangeSpec := { name := "fnExactCircleDistance", fn := fun _ => fun
  | [d1, d2] => { results := [.lit (.bool true)], args := [d1, d2] }
  | _ => none }
def fnExactCircleDistanceRow : OpenClaim := { program := "ytgolbmkjpgflgaa", sum := "26218a75f5083e684da0d91665caa9988580ccf503ab067523ce5ed8fe6c29bb", func := "loop.example/ringoverlay/laws.FnExactCircleDistance", spec := "fnExactCircleDistance", apart := false }
def FnExactCircleDistanceSaid : Prop := fnExactCircleDistanceRow.holds Try.pinned (OpenSpec.ofChange fnExactCircleDistanceSpec)

/-- ITS FALSE NEIGHBOUR: 'it returns false'. Refute it at one input. -/
def fnExactCircleDistanceWrong : ChangeSpec := { name := "fnExactCircleDistance", fn := fun _ => fun
  | [d1, d2] => { results := [.lit (.bool false)], args := [d1, d2] }
  | _ => none }
def FnExactCircleDistanceWrongFalsely : Prop := fnExactCircleDistanceRow.holds Try.pinned (OpenSpec.ofChange fnExactCircleDistanceWrong)

/-- 'laws.FnExactCircleBetween': WHATEVER THE INPUT: true; the input reads as it did. -/
def fnExactCircleBetweenSpec : ChangeSpec := { name := "fnExactCircleBetween", fn := fun _ => fun
  | [d1, d2, d3] => { results := [.lit (.bool true)], args := [d1, d2, d3] }
  | _ => none }
def fnExactCircleBetweenRow : OpenClaim := { program := "ytgolbmkjpgflgaa", sum := "26218a75f5083e684da0d91665caa9988580ccf503ab067523ce5ed8fe6c29bb", func := "loop.example/ringoverlay/laws.FnExactCircleBetween", spec := "fnExactCircleBetween", apart := false }
def FnExactCircleBetweenSaid : Prop := fnExactCircleBetweenRow.holds Try.pinned (OpenSpec.ofChange fnExactCircleBetweenSpec)

/-- ITS FALSE NEIGHBOUR: 'it returns false'. Refute it at one input. -/
def fnExactCircleBetweenWrong : ChangeSpec := { name := "fnExactCircleBetween", fn := fun _ => fun
  | [d1, d2, d3] => { results := [.lit (.bool false)], args := [d1, d2, d3] }
  | _ => none }
def FnExactCircleBetweenWrongFalsely : Prop := fnExactCircleBetweenRow.holds Try.pinned (OpenSpec.ofChange fnExactCircleBetweenWrong)

/-- 'laws.FnExactCircleHolds': WHATEVER THE INPUT: true; the input reads as it did. -/
def fnExactCircleHoldsSpec : ChangeSpec := { name := "fnExactCircleHolds", fn := fun _ => fun
  | [d1, d2, d3] => { results := [.lit (.bool true)], args := [d1, d2, d3] }
  | _ => none }
def fnExactCircleHoldsRow : OpenClaim := { program := "ytgolbmkjpgflgaa", sum := "26218a75f5083e684da0d91665caa9988580ccf503ab067523ce5ed8fe6c29bb", func := "loop.example/ringoverlay/laws.FnExactCircleHolds", spec := "fnExactCircleHolds", apart := false }
def FnExactCircleHoldsSaid : Prop := fnExactCircleHoldsRow.holds Try.pinned (OpenSpec.ofChange fnExactCircleHoldsSpec)

/-- ITS FALSE NEIGHBOUR: 'it returns false'. Refute it at one input. -/
def fnExactCircleHoldsWrong : ChangeSpec := { name := "fnExactCircleHolds", fn := fun _ => fun
  | [d1, d2, d3] => { results := [.lit (.bool false)], args := [d1, d2, d3] }
  | _ => none }
def FnExactCircleHoldsWrongFalsely : Prop := fnExactCircleHoldsRow.holds Try.pinned (OpenSpec.ofChange fnExactCircleHoldsWrong)

/-- 'laws.FnExactNodesValid': WHATEVER THE INPUT: true; the input reads as it did. -/
def fnExactNodesValidSpec : ChangeSpec := { name := "fnExactNodesValid", fn := fun _ => fun
  | [d] => { results := [.lit (.bool true)], args := [d] }
  | _ => none }
def fnExactNodesValidRow : OpenClaim := { program := "ytgolbmkjpgflgaa", sum := "26218a75f5083e684da0d91665caa9988580ccf503ab067523ce5ed8fe6c29bb", func := "loop.example/ringoverlay/laws.FnExactNodesValid", spec := "fnExactNodesValid", apart := false }
def FnExactNodesValidSaid : Prop := fnExactNodesValidRow.holds Try.pinned (OpenSpec.ofChange fnExactNodesValidSpec)

/-- ITS FALSE NEIGHBOUR: 'it returns false'. Refute it at one input. -/
def fnExactNodesValidWrong : ChangeSpec := { name := "fnExactNodesValid", fn := fun _ => fun
  | [d] => { results := [.lit (.bool false)], args := [d] }
  | _ => none }
def FnExactNodesValidWrongFalsely : Prop := fnExactNodesValidRow.holds Try.pinned (OpenSpec.ofChange fnExactNodesValidWrong)

/-- 'laws.FnDistanceAdd': WHATEVER THE INPUT: true; the input reads as it did. -/
def fnDistanceAddSpec : ChangeSpec := { name := "fnDistanceAdd", fn := fun _ => fun
  | [d1, d2] => { results := [.lit (.bool true)], args := [d1, d2] }
  | _ => none }
def fnDistanceAddRow : OpenClaim := { program := "ytgolbmkjpgflgaa", sum := "26218a75f5083e684da0d91665caa9988580ccf503ab067523ce5ed8fe6c29bb", func := "loop.example/ringoverlay/laws.FnDistanceAdd", spec := "fnDistanceAdd", apart := false }
def FnDistanceAddSaid : Prop := fnDistanceAddRow.holds Try.pinned (OpenSpec.ofChange fnDistanceAddSpec)

/-- ITS FALSE NEIGHBOUR: 'it returns false'. Refute it at one input. -/
def fnDistanceAddWrong : ChangeSpec := { name := "fnDistanceAdd", fn := fun _ => fun
  | [d1, d2] => { results := [.lit (.bool false)], args := [d1, d2] }
  | _ => none }
def FnDistanceAddWrongFalsely : Prop := fnDistanceAddRow.holds Try.pinned (OpenSpec.ofChange fnDistanceAddWrong)

/-- 'laws.FnDistanceBack': WHATEVER THE INPUT: true; the input reads as it did. -/
def fnDistanceBackSpec : ChangeSpec := { name := "fnDistanceBack", fn := fun _ => fun
  | [d] => { results := [.lit (.bool true)], args := [d] }
  | _ => none }
def fnDistanceBackRow : OpenClaim := { program := "ytgolbmkjpgflgaa", sum := "26218a75f5083e684da0d91665caa9988580ccf503ab067523ce5ed8fe6c29bb", func := "loop.example/ringoverlay/laws.FnDistanceBack", spec := "fnDistanceBack", apart := false }
def FnDistanceBackSaid : Prop := fnDistanceBackRow.holds Try.pinned (OpenSpec.ofChange fnDistanceBackSpec)

/-- ITS FALSE NEIGHBOUR: 'it returns false'. Refute it at one input. -/
def fnDistanceBackWrong : ChangeSpec := { name := "fnDistanceBack", fn := fun _ => fun
  | [d] => { results := [.lit (.bool false)], args := [d] }
  | _ => none }
def FnDistanceBackWrongFalsely : Prop := fnDistanceBackRow.holds Try.pinned (OpenSpec.ofChange fnDistanceBackWrong)

/-- 'laws.FnExactNodesBefore': WHATEVER THE INPUT: true; the input reads as it did. -/
def fnExactNodesBeforeSpec : ChangeSpec := { name := "fnExactNodesBefore", fn := fun _ => fun
  | [d1, d2] => { results := [.lit (.bool true)], args := [d1, d2] }
  | _ => none }
def fnExactNodesBeforeRow : OpenClaim := { program := "ytgolbmkjpgflgaa", sum := "26218a75f5083e684da0d91665caa9988580ccf503ab067523ce5ed8fe6c29bb", func := "loop.example/ringoverlay/laws.FnExactNodesBefore", spec := "fnExactNodesBefore", apart := false }
def FnExactNodesBeforeSaid : Prop := fnExactNodesBeforeRow.holds Try.pinned (OpenSpec.ofChange fnExactNodesBeforeSpec)

/-- ITS FALSE NEIGHBOUR: 'it returns false'. Refute it at one input. -/
def fnExactNodesBeforeWrong : ChangeSpec := { name := "fnExactNodesBefore", fn := fun _ => fun
  | [d1, d2] => { results := [.lit (.bool false)], args := [d1, d2] }
  | _ => none }
def FnExactNodesBeforeWrongFalsely : Prop := fnExactNodesBeforeRow.holds Try.pinned (OpenSpec.ofChange fnExactNodesBeforeWrong)

/-- 'laws.FnExactNodesNext': WHATEVER THE INPUT: true; the input reads as it did. -/
def fnExactNodesNextSpec : ChangeSpec := { name := "fnExactNodesNext", fn := fun _ => fun
  | [d1, d2] => { results := [.lit (.bool true)], args := [d1, d2] }
  | _ => none }
def fnExactNodesNextRow : OpenClaim := { program := "ytgolbmkjpgflgaa", sum := "26218a75f5083e684da0d91665caa9988580ccf503ab067523ce5ed8fe6c29bb", func := "loop.example/ringoverlay/laws.FnExactNodesNext", spec := "fnExactNodesNext", apart := false }
def FnExactNodesNextSaid : Prop := fnExactNodesNextRow.holds Try.pinned (OpenSpec.ofChange fnExactNodesNextSpec)

/-- ITS FALSE NEIGHBOUR: 'it returns false'. Refute it at one input. -/
def fnExactNodesNextWrong : ChangeSpec := { name := "fnExactNodesNext", fn := fun _ => fun
  | [d1, d2] => { results := [.lit (.bool false)], args := [d1, d2] }
  | _ => none }
def FnExactNodesNextWrongFalsely : Prop := fnExactNodesNextRow.holds Try.pinned (OpenSpec.ofChange fnExactNodesNextWrong)

/-- 'laws.FnBetweenDistance': WHATEVER THE INPUT: true; the input reads as it did. -/
def fnBetweenDistanceSpec : ChangeSpec := { name := "fnBetweenDistance", fn := fun _ => fun
  | [d] => { results := [.lit (.bool true)], args := [d] }
  | _ => none }
def fnBetweenDistanceRow : OpenClaim := { program := "ytgolbmkjpgflgaa", sum := "26218a75f5083e684da0d91665caa9988580ccf503ab067523ce5ed8fe6c29bb", func := "loop.example/ringoverlay/laws.FnBetweenDistance", spec := "fnBetweenDistance", apart := false }
def FnBetweenDistanceSaid : Prop := fnBetweenDistanceRow.holds Try.pinned (OpenSpec.ofChange fnBetweenDistanceSpec)

/-- ITS FALSE NEIGHBOUR: 'it returns false'. Refute it at one input. -/
def fnBetweenDistanceWrong : ChangeSpec := { name := "fnBetweenDistance", fn := fun _ => fun
  | [d] => { results := [.lit (.bool false)], args := [d] }
  | _ => none }
def FnBetweenDistanceWrongFalsely : Prop := fnBetweenDistanceRow.holds Try.pinned (OpenSpec.ofChange fnBetweenDistanceWrong)

/-- 'laws.FnBetweenEnds': WHATEVER THE INPUT: true; the input reads as it did. -/
def fnBetweenEndsSpec : ChangeSpec := { name := "fnBetweenEnds", fn := fun _ => fun
  | [d] => { results := [.lit (.bool true)], args := [d] }
  | _ => none }
def fnBetweenEndsRow : OpenClaim := { program := "ytgolbmkjpgflgaa", sum := "26218a75f5083e684da0d91665caa9988580ccf503ab067523ce5ed8fe6c29bb", func := "loop.example/ringoverlay/laws.FnBetweenEnds", spec := "fnBetweenEnds", apart := false }
def FnBetweenEndsSaid : Prop := fnBetweenEndsRow.holds Try.pinned (OpenSpec.ofChange fnBetweenEndsSpec)

/-- ITS FALSE NEIGHBOUR: 'it returns false'. Refute it at one input. -/
def fnBetweenEndsWrong : ChangeSpec := { name := "fnBetweenEnds", fn := fun _ => fun
  | [d] => { results := [.lit (.bool false)], args := [d] }
  | _ => none }
def FnBetweenEndsWrongFalsely : Prop := fnBetweenEndsRow.holds Try.pinned (OpenSpec.ofChange fnBetweenEndsWrong)

/-- 'laws.FnBetweenOne': WHATEVER THE INPUT: true; the input reads as it did. -/
def fnBetweenOneSpec : ChangeSpec := { name := "fnBetweenOne", fn := fun _ => fun
  | [d] => { results := [.lit (.bool true)], args := [d] }
  | _ => none }
def fnBetweenOneRow : OpenClaim := { program := "ytgolbmkjpgflgaa", sum := "26218a75f5083e684da0d91665caa9988580ccf503ab067523ce5ed8fe6c29bb", func := "loop.example/ringoverlay/laws.FnBetweenOne", spec := "fnBetweenOne", apart := false }
def FnBetweenOneSaid : Prop := fnBetweenOneRow.holds Try.pinned (OpenSpec.ofChange fnBetweenOneSpec)

/-- ITS FALSE NEIGHBOUR: 'it returns false'. Refute it at one input. -/
def fnBetweenOneWrong : ChangeSpec := { name := "fnBetweenOne", fn := fun _ => fun
  | [d] => { results := [.lit (.bool false)], args := [d] }
  | _ => none }
def FnBetweenOneWrongFalsely : Prop := fnBetweenOneRow.holds Try.pinned (OpenSpec.ofChange fnBetweenOneWrong)

/- THE SECOND FORM. 'bulk': how many values and letters a reading holds, each counted each time it is reached (what is shared counts as often as it is met; a slice's spare places count too). A statement '..UptoSaid' is the law's where the arguments, and the package variables that the reading takes, are together of bulk at most 1048576: NARROWER than '..Said'. Prove '..Said' where nothing that the law and all that it calls make is longer than what came in: it says more and counts as full. Else prove '..UptoSaid'. A law counts once. -/
mutual
def uptoBulk {H : Type} : DataW H → Nat
  | .lit (.string bytes) => bytes.length + 1
  | .lit _ => 1
  | .nil => 1
  | .ptr d => uptoBulk d + 1
  | .slice elems spare => uptoBulkAll elems + uptoBulkAll spare + 1
  | .agg parts => uptoBulkAll parts + 1
  | .iface _ d => uptoBulk d + 1
  | .map entries => uptoBulkEntries entries + 1
  | .held _ => 1
def uptoBulkAll {H : Type} : List (DataW H) → Nat
  | [] => 0
  | d :: r => uptoBulk d + uptoBulkAll r
def uptoBulkEntries {H : Type} : List (Lit × DataW H) → Nat
  | [] => 0
  | x :: r => uptoBulkEntry x + uptoBulkEntries r
def uptoBulkEntry {H : Type} : Lit × DataW H → Nat
  | (.string bytes, d) => bytes.length + uptoBulk d + 1
  | (_, d) => uptoBulk d + 1
 end
def uptoSmall : (H : Type) → List (DataW H) → Bool := fun _ ds => decide (uptoBulkAll ds ≤ 1048576)
def OpenSpec.upto (s : _root_.Go.ChangeSpec) : _root_.Go.OpenSpec := { _root_.Go.OpenSpec.ofChange s with cond := some uptoSmall }

/-- 'laws.FnExactConstants', WHERE WHAT IT READS IS OF BULK AT MOST 1048576: true; the input reads as it did. -/
def fnExactConstantsUptoRow : OpenClaim := { program := "ytgolbmkjpgflgaa", sum := "26218a75f5083e684da0d91665caa9988580ccf503ab067523ce5ed8fe6c29bb", func := "loop.example/ringoverlay/laws.FnExactConstants", spec := "fnExactConstants", apart := false, narrowed := true }
def FnExactConstantsUptoSaid : Prop := fnExactConstantsUptoRow.holds Try.pinned (OpenSpec.upto fnExactConstantsSpec)

/-- 'laws.FnExactCircleDistance', WHERE WHAT IT READS IS OF BULK AT MOST 1048576: true; the input reads as it did. -/
def fnExactCircleDistanceUptoRow : OpenClaim := { program := "ytgolbmkjpgflgaa", sum := "26218a75f5083e684da0d91665caa9988580ccf503ab067523ce5ed8fe6c29bb", func := "loop.example/ringoverlay/laws.FnExactCircleDistance", spec := "fnExactCircleDistance", apart := false, narrowed := true }
def FnExactCircleDistanceUptoSaid : Prop := fnExactCircleDistanceUptoRow.holds Try.pinned (OpenSpec.upto fnExactCircleDistanceSpec)

/-- 'laws.FnExactCircleBetween', WHERE WHAT IT READS IS OF BULK AT MOST 1048576: true; the input reads as it did. -/
def fnExactCircleBetweenUptoRow : OpenClaim := { program := "ytgolbmkjpgflgaa", sum := "26218a75f5083e684da0d91665caa9988580ccf503ab067523ce5ed8fe6c29bb", func := "loop.example/ringoverlay/laws.FnExactCircleBetween", spec := "fnExactCircleBetween", apart := false, narrowed := true }
def FnExactCircleBetweenUptoSaid : Prop := fnExactCircleBetweenUptoRow.holds Try.pinned (OpenSpec.upto fnExactCircleBetweenSpec)

/-- 'laws.FnExactCircleHolds', WHERE WHAT IT READS IS OF BULK AT MOST 1048576: true; the input reads as it did. -/
def fnExactCircleHoldsUptoRow : OpenClaim := { program := "ytgolbmkjpgflgaa", sum := "26218a75f5083e684da0d91665caa9988580ccf503ab067523ce5ed8fe6c29bb", func := "loop.example/ringoverlay/laws.FnExactCircleHolds", spec := "fnExactCircleHolds", apart := false, narrowed := true }
def FnExactCircleHoldsUptoSaid : Prop := fnExactCircleHoldsUptoRow.holds Try.pinned (OpenSpec.upto fnExactCircleHoldsSpec)

/-- 'laws.FnExactNodesValid', WHERE WHAT IT READS IS OF BULK AT MOST 1048576: true; the input reads as it did. -/
def fnExactNodesValidUptoRow : OpenClaim := { program := "ytgolbmkjpgflgaa", sum := "26218a75f5083e684da0d91665caa9988580ccf503ab067523ce5ed8fe6c29bb", func := "loop.example/ringoverlay/laws.FnExactNodesValid", spec := "fnExactNodesValid", apart := false, narrowed := true }
def FnExactNodesValidUptoSaid : Prop := fnExactNodesValidUptoRow.holds Try.pinned (OpenSpec.upto fnExactNodesValidSpec)

/-- 'laws.FnDistanceAdd', WHERE WHAT IT READS IS OF BULK AT MOST 1048576: true; the input reads as it did. -/
def fnDistanceAddUptoRow : OpenClaim := { program := "ytgolbmkjpgflgaa", sum := "26218a75f5083e684da0d91665caa9988580ccf503ab067523ce5ed8fe6c29bb", func := "loop.example/ringoverlay/laws.FnDistanceAdd", spec := "fnDistanceAdd", apart := false, narrowed := true }
def FnDistanceAddUptoSaid : Prop := fnDistanceAddUptoRow.holds Try.pinned (OpenSpec.upto fnDistanceAddSpec)

/-- 'laws.FnDistanceBack', WHERE WHAT IT READS IS OF BULK AT MOST 1048576: true; the input reads as it did. -/
def fnDistanceBackUptoRow : OpenClaim := { program := "ytgolbmkjpgflgaa", sum := "26218a75f5083e684da0d91665caa9988580ccf503ab067523ce5ed8fe6c29bb", func := "loop.example/ringoverlay/laws.FnDistanceBack", spec := "fnDistanceBack", apart := false, narrowed := true }
def FnDistanceBackUptoSaid : Prop := fnDistanceBackUptoRow.holds Try.pinned (OpenSpec.upto fnDistanceBackSpec)

/-- 'laws.FnExactNodesBefore', WHERE WHAT IT READS IS OF BULK AT MOST 1048576: true; the input reads as it did. -/
def fnExactNodesBeforeUptoRow : OpenClaim := { program := "ytgolbmkjpgflgaa", sum := "26218a75f5083e684da0d91665caa9988580ccf503ab067523ce5ed8fe6c29bb", func := "loop.example/ringoverlay/laws.FnExactNodesBefore", spec := "fnExactNodesBefore", apart := false, narrowed := true }
def FnExactNodesBeforeUptoSaid : Prop := fnExactNodesBeforeUptoRow.holds Try.pinned (OpenSpec.upto fnExactNodesBeforeSpec)

/-- 'laws.FnExactNodesNext', WHERE WHAT IT READS IS OF BULK AT MOST 1048576: true; the input reads as it did. -/
def fnExactNodesNextUptoRow : OpenClaim := { program := "ytgolbmkjpgflgaa", sum := "26218a75f5083e684da0d91665caa9988580ccf503ab067523ce5ed8fe6c29bb", func := "loop.example/ringoverlay/laws.FnExactNodesNext", spec := "fnExactNodesNext", apart := false, narrowed := true }
def FnExactNodesNextUptoSaid : Prop := fnExactNodesNextUptoRow.holds Try.pinned (OpenSpec.upto fnExactNodesNextSpec)

/-- 'laws.FnBetweenDistance', WHERE WHAT IT READS IS OF BULK AT MOST 1048576: true; the input reads as it did. -/
def fnBetweenDistanceUptoRow : OpenClaim := { program := "ytgolbmkjpgflgaa", sum := "26218a75f5083e684da0d91665caa9988580ccf503ab067523ce5ed8fe6c29bb", func := "loop.example/ringoverlay/laws.FnBetweenDistance", spec := "fnBetweenDistance", apart := false, narrowed := true }
def FnBetweenDistanceUptoSaid : Prop := fnBetweenDistanceUptoRow.holds Try.pinned (OpenSpec.upto fnBetweenDistanceSpec)

/-- 'laws.FnBetweenEnds', WHERE WHAT IT READS IS OF BULK AT MOST 1048576: true; the input reads as it did. -/
def fnBetweenEndsUptoRow : OpenClaim := { program := "ytgolbmkjpgflgaa", sum := "26218a75f5083e684da0d91665caa9988580ccf503ab067523ce5ed8fe6c29bb", func := "loop.example/ringoverlay/laws.FnBetweenEnds", spec := "fnBetweenEnds", apart := false, narrowed := true }
def FnBetweenEndsUptoSaid : Prop := fnBetweenEndsUptoRow.holds Try.pinned (OpenSpec.upto fnBetweenEndsSpec)

/-- 'laws.FnBetweenOne', WHERE WHAT IT READS IS OF BULK AT MOST 1048576: true; the input reads as it did. -/
def fnBetweenOneUptoRow : OpenClaim := { program := "ytgolbmkjpgflgaa", sum := "26218a75f5083e684da0d91665caa9988580ccf503ab067523ce5ed8fe6c29bb", func := "loop.example/ringoverlay/laws.FnBetweenOne", spec := "fnBetweenOne", apart := false, narrowed := true }
def FnBetweenOneUptoSaid : Prop := fnBetweenOneUptoRow.holds Try.pinned (OpenSpec.upto fnBetweenOneSpec)

end Rows
end Go.Proofs.Ytgolbmkjpgflgaa
