/-
  No cell of these rows narrows 'for every input' (looked for: loops, veiled, ifaces, maps, wideKeys, modest, calm, conditions, laid).
  DERIVED. THE GIVEN ROWS OF THIS SEAT. 7 by the template 'for every input the law returns true; each argument reads behind the call as it read before'; 0 by the template 'total and deterministic' (their statements: YtdkcppbafpjpgaaTotals.lean).
  GIVEN WITH THE SEED: the statements are not yours to turn. If you find one false, say at which input.
  Laid BY PROGRAM, IN A SANDBOX (cutbox-rows.mjs): the forced cells as the released guide's own fill.sh prints them over the translation 160ef9ba9e48f792… (all of the seat's roots in one cut). By AI agents, Wed Nov 11 2026. No macro, syntax, notation, axiom, sorry.
-/
import Derived.Test.YtdkcppbafpjpgaaChecked
import GoSem.Claim
import GoSem.ClaimJoined
import GoSem.ClaimMapViews
import Derived.JoinedTies
import Derived.KernelRfl
namespace Go.Proofs.Ytdkcppbafpjpgaa
/- THE CELL 'sum', in the pinned program and in every row, IS THE sha256 OF THE DUMP (.gsa) THAT YtdkcppbafpjpgaaProg.lean LOADS. Nothing in Lean hashes anything: it is a label: what it is worth is what the hold of that sum in a sandbox is worth. -/
noncomputable def Try.pinned : Pinned := { name := "ytdkcppbafpjpgaa", sum := "160ef9ba9e48f792efd1dd24607f6d4c45ee0299230cbff751334a23536ccac9", checked := Try.checked }
namespace Rows
def none {H : Type} : Left H := { results := [], args := [] }

/-- 'laws.FnBetweenTurn': WHATEVER THE INPUT: true; the input reads as it did. -/
def fnBetweenTurnSpec : ChangeSpec := { name := "fnBetweenTurn", fn := fun _ => fun
  | [d1, d2] => { results := [.lit (.bool true)], args := [d1, d2] }
  | _ => none }
def fnBetweenTurnRow : OpenClaim := { program := "ytdkcppbafpjpgaa", sum := "160ef9ba9e48f792efd1dd24607f6d4c45ee0299230cbff751334a23536ccac9", func := "loop.example/ringoverlay/laws.FnBetweenTurn", spec := "fnBetweenTurn", apart := false }
def FnBetweenTurnSaid : Prop := fnBetweenTurnRow.holds Try.pinned (OpenSpec.ofChange fnBetweenTurnSpec)

/-- ITS FALSE NEIGHBOUR: 'it returns false'. Refute it at one input. -/
def fnBetweenTurnWrong : ChangeSpec := { name := "fnBetweenTurn", fn := fun _ => fun
  | [d1, d2] => { results := [.lit (.bool false)], args := [d1, d2] }
  | _ => none }
def FnBetweenTurnWrongFalsely : Prop := fnBetweenTurnRow.holds Try.pinned (OpenSpec.ofChange fnBetweenTurnWrong)

/-- 'laws.FnHoldsCount': WHATEVER THE INPUT: true; the input reads as it did. -/
def fnHoldsCountSpec : ChangeSpec := { name := "fnHoldsCount", fn := fun _ => fun
  | [d] => { results := [.lit (.bool true)], args := [d] }
  | _ => none }
def fnHoldsCountRow : OpenClaim := { program := "ytdkcppbafpjpgaa", sum := "160ef9ba9e48f792efd1dd24607f6d4c45ee0299230cbff751334a23536ccac9", func := "loop.example/ringoverlay/laws.FnHoldsCount", spec := "fnHoldsCount", apart := false }
def FnHoldsCountSaid : Prop := fnHoldsCountRow.holds Try.pinned (OpenSpec.ofChange fnHoldsCountSpec)

/-- ITS FALSE NEIGHBOUR: 'it returns false'. Refute it at one input. -/
def fnHoldsCountWrong : ChangeSpec := { name := "fnHoldsCount", fn := fun _ => fun
  | [d] => { results := [.lit (.bool false)], args := [d] }
  | _ => none }
def FnHoldsCountWrongFalsely : Prop := fnHoldsCountRow.holds Try.pinned (OpenSpec.ofChange fnHoldsCountWrong)

/-- 'laws.FnHoldsDivide': WHATEVER THE INPUT: true; the input reads as it did. -/
def fnHoldsDivideSpec : ChangeSpec := { name := "fnHoldsDivide", fn := fun _ => fun
  | [d1, d2] => { results := [.lit (.bool true)], args := [d1, d2] }
  | _ => none }
def fnHoldsDivideRow : OpenClaim := { program := "ytdkcppbafpjpgaa", sum := "160ef9ba9e48f792efd1dd24607f6d4c45ee0299230cbff751334a23536ccac9", func := "loop.example/ringoverlay/laws.FnHoldsDivide", spec := "fnHoldsDivide", apart := false }
def FnHoldsDivideSaid : Prop := fnHoldsDivideRow.holds Try.pinned (OpenSpec.ofChange fnHoldsDivideSpec)

/-- ITS FALSE NEIGHBOUR: 'it returns false'. Refute it at one input. -/
def fnHoldsDivideWrong : ChangeSpec := { name := "fnHoldsDivide", fn := fun _ => fun
  | [d1, d2] => { results := [.lit (.bool false)], args := [d1, d2] }
  | _ => none }
def FnHoldsDivideWrongFalsely : Prop := fnHoldsDivideRow.holds Try.pinned (OpenSpec.ofChange fnHoldsDivideWrong)

/-- 'laws.FnNodesValid': WHATEVER THE INPUT: true; the input reads as it did. -/
def fnNodesValidSpec : ChangeSpec := { name := "fnNodesValid", fn := fun _ => fun
  | [d1, d2] => { results := [.lit (.bool true)], args := [d1, d2] }
  | _ => none }
def fnNodesValidRow : OpenClaim := { program := "ytdkcppbafpjpgaa", sum := "160ef9ba9e48f792efd1dd24607f6d4c45ee0299230cbff751334a23536ccac9", func := "loop.example/ringoverlay/laws.FnNodesValid", spec := "fnNodesValid", apart := false }
def FnNodesValidSaid : Prop := fnNodesValidRow.holds Try.pinned (OpenSpec.ofChange fnNodesValidSpec)

/-- ITS FALSE NEIGHBOUR: 'it returns false'. Refute it at one input. -/
def fnNodesValidWrong : ChangeSpec := { name := "fnNodesValid", fn := fun _ => fun
  | [d1, d2] => { results := [.lit (.bool false)], args := [d1, d2] }
  | _ => none }
def FnNodesValidWrongFalsely : Prop := fnNodesValidRow.holds Try.pinned (OpenSpec.ofChange fnNodesValidWrong)

/-- 'laws.FnNodesJoin': WHATEVER THE INPUT: true; the input reads as it did. -/
def fnNodesJoinSpec : ChangeSpec := { name := "fnNodesJoin", fn := fun _ => fun
  | [d1, d2] => { results := [.lit (.bool true)], args := [d1, d2] }
  | _ => none }
def fnNodesJoinRow : OpenClaim := { program := "ytdkcppbafpjpgaa", sum := "160ef9ba9e48f792efd1dd24607f6d4c45ee0299230cbff751334a23536ccac9", func := "loop.example/ringoverlay/laws.FnNodesJoin", spec := "fnNodesJoin", apart := false }
def FnNodesJoinSaid : Prop := fnNodesJoinRow.holds Try.pinned (OpenSpec.ofChange fnNodesJoinSpec)

/-- ITS FALSE NEIGHBOUR: 'it returns false'. Refute it at one input. -/
def fnNodesJoinWrong : ChangeSpec := { name := "fnNodesJoin", fn := fun _ => fun
  | [d1, d2] => { results := [.lit (.bool false)], args := [d1, d2] }
  | _ => none }
def FnNodesJoinWrongFalsely : Prop := fnNodesJoinRow.holds Try.pinned (OpenSpec.ofChange fnNodesJoinWrong)

/-- 'laws.FnNodesBefore': WHATEVER THE INPUT: true; the input reads as it did. -/
def fnNodesBeforeSpec : ChangeSpec := { name := "fnNodesBefore", fn := fun _ => fun
  | [d] => { results := [.lit (.bool true)], args := [d] }
  | _ => none }
def fnNodesBeforeRow : OpenClaim := { program := "ytdkcppbafpjpgaa", sum := "160ef9ba9e48f792efd1dd24607f6d4c45ee0299230cbff751334a23536ccac9", func := "loop.example/ringoverlay/laws.FnNodesBefore", spec := "fnNodesBefore", apart := false }
def FnNodesBeforeSaid : Prop := fnNodesBeforeRow.holds Try.pinned (OpenSpec.ofChange fnNodesBeforeSpec)

/-- ITS FALSE NEIGHBOUR: 'it returns false'. Refute it at one input. -/
def fnNodesBeforeWrong : ChangeSpec := { name := "fnNodesBefore", fn := fun _ => fun
  | [d] => { results := [.lit (.bool false)], args := [d] }
  | _ => none }
def FnNodesBeforeWrongFalsely : Prop := fnNodesBeforeRow.holds Try.pinned (OpenSpec.ofChange fnNodesBeforeWrong)

/-- 'laws.FnNodesNext': WHATEVER THE INPUT: true; the input reads as it did. -/
def fnNodesNextSpec : ChangeSpec := { name := "fnNodesNext", fn := fun _ => fun
  | [d] => { results := [.lit (.bool true)], args := [d] }
  | _ => none }
def fnNodesNextRow : OpenClaim := { program := "ytdkcppbafpjpgaa", sum := "160ef9ba9e48f792efd1dd24607f6d4c45ee0299230cbff751334a23536ccac9", func := "loop.example/ringoverlay/laws.FnNodesNext", spec := "fnNodesNext", apart := false }
def FnNodesNextSaid : Prop := fnNodesNextRow.holds Try.pinned (OpenSpec.ofChange fnNodesNextSpec)

/-- ITS FALSE NEIGHBOUR: 'it returns false'. Refute it at one input. -/
def fnNodesNextWrong : ChangeSpec := { name := "fnNodesNext", fn := fun _ => fun
  | [d] => { results := [.lit (.bool false)], args := [d] }
  | _ => none }
def FnNodesNextWrongFalsely : Prop := fnNodesNextRow.holds Try.pinned (OpenSpec.ofChange fnNodesNextWrong)

/- THE SECOND FORM. 'bulk': how many values and letters a reading holds, each counted each time it is reached (what is shared counts as often as it is met; a slice's spare places count too). A statement '..UptoSaid' is the law's where the arguments, and the package variables that the reading takes, are together of bulk at most 1048576: NARROWER than '..Said'. Prove '..Said' where nothing that the law and all that it calls make is longer than what came in: it says more and counts as full. Else prove '..UptoSaid'. A law counts once. -/
mutual
def uptoBulk {H : Type} : DataW H → Nat
  | .lit (.string bytes) => bytes.length + 1
  | .lit _ => 1
  | .nil => 1
  | .ptr d => uptoBulk d + 1
  | .slice elems spare => uptoBulkAll elems + uptoBulkAll spare + 1
  | .agg parts => uptoBulkAll parts + 1
  | .iface _ d => uptoBulk d + 1
  | .map entries => uptoBulkEntries entries + 1
  | .held _ => 1
def uptoBulkAll {H : Type} : List (DataW H) → Nat
  | [] => 0
  | d :: r => uptoBulk d + uptoBulkAll r
def uptoBulkEntries {H : Type} : List (Lit × DataW H) → Nat
  | [] => 0
  | x :: r => uptoBulkEntry x + uptoBulkEntries r
def uptoBulkEntry {H : Type} : Lit × DataW H → Nat
  | (.string bytes, d) => bytes.length + uptoBulk d + 1
  | (_, d) => uptoBulk d + 1
 end
def uptoSmall : (H : Type) → List (DataW H) → Bool := fun _ ds => decide (uptoBulkAll ds ≤ 1048576)
def OpenSpec.upto (s : _root_.Go.ChangeSpec) : _root_.Go.OpenSpec := { _root_.Go.OpenSpec.ofChange s with cond := some uptoSmall }

/-- 'laws.FnBetweenTurn', WHERE WHAT IT READS IS OF BULK AT MOST 1048576: true; the input reads as it did. -/
def fnBetweenTurnUptoRow : OpenClaim := { program := "ytdkcppbafpjpgaa", sum := "160ef9ba9e48f792efd1dd24607f6d4c45ee0299230cbff751334a23536ccac9", func := "loop.example/ringoverlay/laws.FnBetweenTurn", spec := "fnBetweenTurn", apart := false, narrowed := true }
def FnBetweenTurnUptoSaid : Prop := fnBetweenTurnUptoRow.holds Try.pinned (OpenSpec.upto fnBetweenTurnSpec)

/-- 'laws.FnHoldsCount', WHERE WHAT IT READS IS OF BULK AT MOST 1048576: true; the input reads as it did. -/
def fnHoldsCountUptoRow : OpenClaim := { program := "ytdkcppbafpjpgaa", sum := "160ef9ba9e48f792efd1dd24607f6d4c45ee0299230cbff751334a23536ccac9", func := "loop.example/ringoverlay/laws.FnHoldsCount", spec := "fnHoldsCount", apart := false, narrowed := true }
def FnHoldsCountUptoSaid : Prop := fnHoldsCountUptoRow.holds Try.pinned (OpenSpec.upto fnHoldsCountSpec)

/-- 'laws.FnHoldsDivide', WHERE WHAT IT READS IS OF BULK AT MOST 1048576: true; the input reads as it did. -/
def fnHoldsDivideUptoRow : OpenClaim := { program := "ytdkcppbafpjpgaa", sum := "160ef9ba9e48f792efd1dd24607f6d4c45ee0299230cbff751334a23536ccac9", func := "loop.example/ringoverlay/laws.FnHoldsDivide", spec := "fnHoldsDivide", apart := false, narrowed := true }
def FnHoldsDivideUptoSaid : Prop := fnHoldsDivideUptoRow.holds Try.pinned (OpenSpec.upto fnHoldsDivideSpec)

/-- 'laws.FnNodesValid', WHERE WHAT IT READS IS OF BULK AT MOST 1048576: true; the input reads as it did. -/
def fnNodesValidUptoRow : OpenClaim := { program := "ytdkcppbafpjpgaa", sum := "160ef9ba9e48f792efd1dd24607f6d4c45ee0299230cbff751334a23536ccac9", func := "loop.example/ringoverlay/laws.FnNodesValid", spec := "fnNodesValid", apart := false, narrowed := true }
def FnNodesValidUptoSaid : Prop := fnNodesValidUptoRow.holds Try.pinned (OpenSpec.upto fnNodesValidSpec)

/-- 'laws.FnNodesJoin', WHERE WHAT IT READS IS OF BULK AT MOST 1048576: true; the input reads as it did. -/
def fnNodesJoinUptoRow : OpenClaim := { program := "ytdkcppbafpjpgaa", sum := "160ef9ba9e48f792efd1dd24607f6d4c45ee0299230cbff751334a23536ccac9", func := "loop.example/ringoverlay/laws.FnNodesJoin", spec := "fnNodesJoin", apart := false, narrowed := true }
def FnNodesJoinUptoSaid : Prop := fnNodesJoinUptoRow.holds Try.pinned (OpenSpec.upto fnNodesJoinSpec)

/-- 'laws.FnNodesBefore', WHERE WHAT IT READS IS OF BULK AT MOST 1048576: true; the input reads as it did. -/
def fnNodesBeforeUptoRow : OpenClaim := { program := "ytdkcppbafpjpgaa", sum := "160ef9ba9e48f792efd1dd24607f6d4c45ee0299230cbff751334a23536ccac9", func := "loop.example/ringoverlay/laws.FnNodesBefore", spec := "fnNodesBefore", apart := false, narrowed := true }
def FnNodesBeforeUptoSaid : Prop := fnNodesBeforeUptoRow.holds Try.pinned (OpenSpec.upto fnNodesBeforeSpec)

/-- 'laws.FnNodesNext', WHERE WHAT IT READS IS OF BULK AT MOST 1048576: true; the input reads as it did. -/
def fnNodesNextUptoRow : OpenClaim := { program := "ytdkcppbafpjpgaa", sum := "160ef9ba9e48f792efd1dd24607f6d4c45ee0299230cbff751334a23536ccac9", func := "loop.example/ringoverlay/laws.FnNodesNext", spec := "fnNodesNext", apart := false, narrowed := true }
def FnNodesNextUptoSaid : Prop := fnNodesNextUptoRow.holds Try.pinned (OpenSpec.upto fnNodesNextSpec)

end Rows
end Go.Proofs.Ytdkcppbafpjpgaa
