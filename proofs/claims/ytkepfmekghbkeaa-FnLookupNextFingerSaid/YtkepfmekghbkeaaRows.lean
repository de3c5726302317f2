/-
  No cell of these rows narrows 'for every input' (looked for: loops, veiled, ifaces, maps, wideKeys, modest, calm, conditions, laid).
  DERIVED. THE GIVEN ROWS OF THIS SEAT. 7 by the template 'for every input the law returns true; each argument reads behind the call as it read before'; 0 by the template 'total and deterministic' (their statements: YtkepfmekghbkeaaTotals.lean).
  GIVEN WITH THE SEED: the statements are not yours to turn. If you find one false, say at which input.
  Laid BY PROGRAM, IN A SANDBOX (cutbox-rows.mjs): the forced cells as the released guide's own fill.sh prints them over the translation 8b0eb723ce0551c0… (all of the seat's roots in one cut). By AI agents, Wed Nov 11 2026. No macro, syntax, notation, axiom, sorry.
-/
import Derived.Test.YtkepfmekghbkeaaChecked
import GoSem.Claim
import GoSem.ClaimJoined
import GoSem.ClaimMapViews
import Derived.JoinedTies
import Derived.KernelRfl
namespace Go.Proofs.Ytkepfmekghbkeaa
/- THE CELL 'sum', in the pinned program and in every row, IS THE sha256 OF THE DUMP (.gsa) THAT YtkepfmekghbkeaaProg.lean LOADS. Nothing in Lean hashes anything: it is a label: what it is worth is what the hold of that sum in a sandbox is worth. -/
noncomputable def Try.pinned : Pinned := { name := "ytkepfmekghbkeaa", sum := "8b0eb723ce0551c0b2e3b44e79c4456251ad190e0428030e8600e4af412af283", checked := Try.checked }
namespace Rows
def none {H : Type} : Left H := { results := [], args := [] }

/-- 'laws.FnLookupShort': WHATEVER THE INPUT: true; the input reads as it did. -/
def fnLookupShortSpec : ChangeSpec := { name := "fnLookupShort", fn := fun _ => fun
  | [d] => { results := [.lit (.bool true)], args := [d] }
  | _ => none }
def fnLookupShortRow : OpenClaim := { program := "ytkepfmekghbkeaa", sum := "8b0eb723ce0551c0b2e3b44e79c4456251ad190e0428030e8600e4af412af283", func := "loop.example/ringoverlay/laws.FnLookupShort", spec := "fnLookupShort", unfollowed := true, recurses := true, apart := false }
def FnLookupShortSaid : Prop := fnLookupShortRow.holds Try.pinned (OpenSpec.ofChange fnLookupShortSpec)

/-- ITS FALSE NEIGHBOUR: 'it returns false'. Refute it at one input. -/
def fnLookupShortWrong : ChangeSpec := { name := "fnLookupShort", fn := fun _ => fun
  | [d] => { results := [.lit (.bool false)], args := [d] }
  | _ => none }
def FnLookupShortWrongFalsely : Prop := fnLookupShortRow.holds Try.pinned (OpenSpec.ofChange fnLookupShortWrong)

/-- 'laws.FnLookupSuffix': WHATEVER THE INPUT: true; the input reads as it did. -/
def fnLookupSuffixSpec : ChangeSpec := { name := "fnLookupSuffix", fn := fun _ => fun
  | [d1, d2] => { results := [.lit (.bool true)], args := [d1, d2] }
  | _ => none }
def fnLookupSuffixRow : OpenClaim := { program := "ytkepfmekghbkeaa", sum := "8b0eb723ce0551c0b2e3b44e79c4456251ad190e0428030e8600e4af412af283", func := "loop.example/ringoverlay/laws.FnLookupSuffix", spec := "fnLookupSuffix", unfollowed := true, recurses := true, apart := false }
def FnLookupSuffixSaid : Prop := fnLookupSuffixRow.holds Try.pinned (OpenSpec.ofChange fnLookupSuffixSpec)

/-- ITS FALSE NEIGHBOUR: 'it returns false'. Refute it at one input. -/
def fnLookupSuffixWrong : ChangeSpec := { name := "fnLookupSuffix", fn := fun _ => fun
  | [d1, d2] => { results := [.lit (.bool false)], args := [d1, d2] }
  | _ => none }
def FnLookupSuffixWrongFalsely : Prop := fnLookupSuffixRow.holds Try.pinned (OpenSpec.ofChange fnLookupSuffixWrong)

/-- 'laws.FnLookupOnce': WHATEVER THE INPUT: true; the input reads as it did. -/
def fnLookupOnceSpec : ChangeSpec := { name := "fnLookupOnce", fn := fun _ => fun
  | [d] => { results := [.lit (.bool true)], args := [d] }
  | _ => none }
def fnLookupOnceRow : OpenClaim := { program := "ytkepfmekghbkeaa", sum := "8b0eb723ce0551c0b2e3b44e79c4456251ad190e0428030e8600e4af412af283", func := "loop.example/ringoverlay/laws.FnLookupOnce", spec := "fnLookupOnce", unfollowed := true, recurses := true, apart := false }
def FnLookupOnceSaid : Prop := fnLookupOnceRow.holds Try.pinned (OpenSpec.ofChange fnLookupOnceSpec)

/-- ITS FALSE NEIGHBOUR: 'it returns false'. Refute it at one input. -/
def fnLookupOnceWrong : ChangeSpec := { name := "fnLookupOnce", fn := fun _ => fun
  | [d] => { results := [.lit (.bool false)], args := [d] }
  | _ => none }
def FnLookupOnceWrongFalsely : Prop := fnLookupOnceRow.holds Try.pinned (OpenSpec.ofChange fnLookupOnceWrong)

/-- 'laws.FnLookupNextFinger': WHATEVER THE INPUT: true; the input reads as it did. -/
def fnLookupNextFingerSpec : ChangeSpec := { name := "fnLookupNextFinger", fn := fun _ => fun
  | [d] => { results := [.lit (.bool true)], args := [d] }
  | _ => none }
def fnLookupNextFingerRow : OpenClaim := { program := "ytkepfmekghbkeaa", sum := "8b0eb723ce0551c0b2e3b44e79c4456251ad190e0428030e8600e4af412af283", func := "loop.example/ringoverlay/laws.FnLookupNextFinger", spec := "fnLookupNextFinger", apart := false }
def FnLookupNextFingerSaid : Prop := fnLookupNextFingerRow.holds Try.pinned (OpenSpec.ofChange fnLookupNextFingerSpec)

/-- ITS FALSE NEIGHBOUR: 'it returns false'. Refute it at one input. -/
def fnLookupNextFingerWrong : ChangeSpec := { name := "fnLookupNextFinger", fn := fun _ => fun
  | [d] => { results := [.lit (.bool false)], args := [d] }
  | _ => none }
def FnLookupNextFingerWrongFalsely : Prop := fnLookupNextFingerRow.holds Try.pinned (OpenSpec.ofChange fnLookupNextFingerWrong)

/-- 'laws.FnLookupNext': WHATEVER THE INPUT: true; the input reads as it did. -/
def fnLookupNextSpec : ChangeSpec := { name := "fnLookupNext", fn := fun _ => fun
  | [d] => { results := [.lit (.bool true)], args := [d] }
  | _ => none }
def fnLookupNextRow : OpenClaim := { program := "ytkepfmekghbkeaa", sum := "8b0eb723ce0551c0b2e3b44e79c4456251ad190e0428030e8600e4af412af283", func := "loop.example/ringoverlay/laws.FnLookupNext", spec := "fnLookupNext", unfollowed := true, recurses := true, apart := false }
def FnLookupNextSaid : Prop := fnLookupNextRow.holds Try.pinned (OpenSpec.ofChange fnLookupNextSpec)

/-- ITS FALSE NEIGHBOUR: 'it returns false'. Refute it at one input. -/
def fnLookupNextWrong : ChangeSpec := { name := "fnLookupNext", fn := fun _ => fun
  | [d] => { results := [.lit (.bool false)], args := [d] }
  | _ => none }
def FnLookupNextWrongFalsely : Prop := fnLookupNextRow.holds Try.pinned (OpenSpec.ofChange fnLookupNextWrong)

/-- 'laws.FnLookupOwner': WHATEVER THE INPUT: true; the input reads as it did. -/
def fnLookupOwnerSpec : ChangeSpec := { name := "fnLookupOwner", fn := fun _ => fun
  | [d] => { results := [.lit (.bool true)], args := [d] }
  | _ => none }
def fnLookupOwnerRow : OpenClaim := { program := "ytkepfmekghbkeaa", sum := "8b0eb723ce0551c0b2e3b44e79c4456251ad190e0428030e8600e4af412af283", func := "loop.example/ringoverlay/laws.FnLookupOwner", spec := "fnLookupOwner", unfollowed := true, recurses := true, apart := false }
def FnLookupOwnerSaid : Prop := fnLookupOwnerRow.holds Try.pinned (OpenSpec.ofChange fnLookupOwnerSpec)

/-- ITS FALSE NEIGHBOUR: 'it returns false'. Refute it at one input. -/
def fnLookupOwnerWrong : ChangeSpec := { name := "fnLookupOwner", fn := fun _ => fun
  | [d] => { results := [.lit (.bool false)], args := [d] }
  | _ => none }
def FnLookupOwnerWrongFalsely : Prop := fnLookupOwnerRow.holds Try.pinned (OpenSpec.ofChange fnLookupOwnerWrong)

/-- 'laws.FnLookupSelf': WHATEVER THE INPUT: true; the input reads as it did. -/
def fnLookupSelfSpec : ChangeSpec := { name := "fnLookupSelf", fn := fun _ => fun
  | [d] => { results := [.lit (.bool true)], args := [d] }
  | _ => none }
def fnLookupSelfRow : OpenClaim := { program := "ytkepfmekghbkeaa", sum := "8b0eb723ce0551c0b2e3b44e79c4456251ad190e0428030e8600e4af412af283", func := "loop.example/ringoverlay/laws.FnLookupSelf", spec := "fnLookupSelf", unfollowed := true, recurses := true, apart := false }
def FnLookupSelfSaid : Prop := fnLookupSelfRow.holds Try.pinned (OpenSpec.ofChange fnLookupSelfSpec)

/-- ITS FALSE NEIGHBOUR: 'it returns false'. Refute it at one input. -/
def fnLookupSelfWrong : ChangeSpec := { name := "fnLookupSelf", fn := fun _ => fun
  | [d] => { results := [.lit (.bool false)], args := [d] }
  | _ => none }
def FnLookupSelfWrongFalsely : Prop := fnLookupSelfRow.holds Try.pinned (OpenSpec.ofChange fnLookupSelfWrong)

/- THE SECOND FORM. 'bulk': how many values and letters a reading holds, each counted each time it is reached (what is shared counts as often as it is met; a slice's spare places count too). A statement '..UptoSaid' is the law's where the arguments, and the package variables that the reading takes, are together of bulk at most 1048576: NARROWER than '..Said'. Prove '..Said' where nothing that the law and all that it calls make is longer than what came in: it says more and counts as full. Else prove '..UptoSaid'. A law counts once. -/
mutual
def uptoBulk {H : Type} : DataW H → Nat
  | .lit (.string bytes) => bytes.length + 1
  | .lit _ => 1
  | .nil => 1
  | .ptr d => uptoBulk d + 1
  | .slice elems spare => uptoBulkAll elems + uptoBulkAll spare + 1
  | .agg parts => uptoBulkAll parts + 1
  | .iface _ d => uptoBulk d + 1
  | .map entries => uptoBulkEntries entries + 1
  | .held _ => 1
def uptoBulkAll {H : Type} : List (DataW H) → Nat
  | [] => 0
  | d :: r => uptoBulk d + uptoBulkAll r
def uptoBulkEntries {H : Type} : List (Lit × DataW H) → Nat
  | [] => 0
  | x :: r => uptoBulkEntry x + uptoBulkEntries r
def uptoBulkEntry {H : Type} : Lit × DataW H → Nat
  | (.string bytes, d) => bytes.length + uptoBulk d + 1
  | (_, d) => uptoBulk d + 1
 end
def uptoSmall : (H : Type) → List (DataW H) → Bool := fun _ ds => decide (uptoBulkAll ds ≤ 1048576)
def OpenSpec.upto (s : _root_.Go.ChangeSpec) : _root_.Go.OpenSpec := { _root_.Go.OpenSpec.ofChange s with cond := some uptoSmall }

/-- 'laws.FnLookupShort', WHERE WHAT IT READS IS OF BULK AT MOST 1048576: true; the input reads as it did. -/
def fnLookupShortUptoRow : OpenClaim := { program := "ytkepfmekghbkeaa", sum := "8b0eb723ce0551c0b2e3b44e79c4456251ad190e0428030e8600e4af412af283", func := "loop.example/ringoverlay/laws.FnLookupShort", spec := "fnLookupShort", unfollowed := true, recurses := true, apart := false, narrowed := true }
def FnLookupShortUptoSaid : Prop := fnLookupShortUptoRow.holds Try.pinned (OpenSpec.upto fnLookupShortSpec)

/-- 'laws.FnLookupSuffix', WHERE WHAT IT READS IS OF BULK AT MOST 1048576: true; the input reads as it did. -/
def fnLookupSuffixUptoRow : OpenClaim := { program := "ytkepfmekghbkeaa", sum := "8b0eb723ce0551c0b2e3b44e79c4456251ad190e0428030e8600e4af412af283", func := "loop.example/ringoverlay/laws.FnLookupSuffix", spec := "fnLookupSuffix", unfollowed := true, recurses := true, apart := false, narrowed := true }
def FnLookupSuffixUptoSaid : Prop := fnLookupSuffixUptoRow.holds Try.pinned (OpenSpec.upto fnLookupSuffixSpec)

/-- 'laws.FnLookupOnce', WHERE WHAT IT READS IS OF BULK AT MOST 1048576: true; the input reads as it did. -/
def fnLookupOnceUptoRow : OpenClaim := { program := "ytkepfmekghbkeaa", sum := "8b0eb723ce0551c0b2e3b44e79c4456251ad190e0428030e8600e4af412af283", func := "loop.example/ringoverlay/laws.FnLookupOnce", spec := "fnLookupOnce", unfollowed := true, recurses := true, apart := false, narrowed := true }
def FnLookupOnceUptoSaid : Prop := fnLookupOnceUptoRow.holds Try.pinned (OpenSpec.upto fnLookupOnceSpec)

/-- 'laws.FnLookupNextFinger', WHERE WHAT IT READS IS OF BULK AT MOST 1048576: true; the input reads as it did. -/
def fnLookupNextFingerUptoRow : OpenClaim := { program := "ytkepfmekghbkeaa", sum := "8b0eb723ce0551c0b2e3b44e79c4456251ad190e0428030e8600e4af412af283", func := "loop.example/ringoverlay/laws.FnLookupNextFinger", spec := "fnLookupNextFinger", apart := false, narrowed := true }
def FnLookupNextFingerUptoSaid : Prop := fnLookupNextFingerUptoRow.holds Try.pinned (OpenSpec.upto fnLookupNextFingerSpec)

/-- 'laws.FnLookupNext', WHERE WHAT IT READS IS OF BULK AT MOST 1048576: true; the input reads as it did. -/
def fnLookupNextUptoRow : OpenClaim := { program := "ytkepfmekghbkeaa", sum := "8b0eb723ce0551c0b2e3b44e79c4456251ad190e0428030e8600e4af412af283", func := "loop.example/ringoverlay/laws.FnLookupNext", spec := "fnLookupNext", unfollowed := true, recurses := true, apart := false, narrowed := true }
def FnLookupNextUptoSaid : Prop := fnLookupNextUptoRow.holds Try.pinned (OpenSpec.upto fnLookupNextSpec)

/-- 'laws.FnLookupOwner', WHERE WHAT IT READS IS OF BULK AT MOST 1048576: true; the input reads as it did. -/
def fnLookupOwnerUptoRow : OpenClaim := { program := "ytkepfmekghbkeaa", sum := "8b0eb723ce0551c0b2e3b44e79c4456251ad190e0428030e8600e4af412af283", func := "loop.example/ringoverlay/laws.FnLookupOwner", spec := "fnLookupOwner", unfollowed := true, recurses := true, apart := false, narrowed := true }
def FnLookupOwnerUptoSaid : Prop := fnLookupOwnerUptoRow.holds Try.pinned (OpenSpec.upto fnLookupOwnerSpec)

/-- 'laws.FnLookupSelf', WHERE WHAT IT READS IS OF BULK AT MOST 1048576: true; the input reads as it did. -/
def fnLookupSelfUptoRow : OpenClaim := { program := "ytkepfmekghbkeaa", sum := "8b0eb723ce0551c0b2e3b44e79c4456251ad190e0428030e8600e4af412af283", func := "loop.example/ringoverlay/laws.FnLookupSelf", spec := "fnLookupSelf", unfollowed := true, recurses := true, apart := false, narrowed := true }
def FnLookupSelfUptoSaid : Prop := fnLookupSelfUptoRow.holds Try.pinned (OpenSpec.upto fnLookupSelfSpec)

end Rows
end Go.Proofs.Ytkepfmekghbkeaa
