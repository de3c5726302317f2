/-
  DERIVED. GIVEN WITH THE SEED: THE CARDS: each row of YtkjolmbcafonaaaDoorRows.lean that lists a variable, with what it lists TIED to the program's text (the seventh form; the later family's looks); each row that meets fmt, with fmt's text TOLD by the authors' own Lean function (tested against real Go, not proved from fmt's source: count such statements apart). THE CARD IS WHAT COUNTS. Prove the row's statement (the work); the ties are given (YtkjolmbcafonaaaDoorTie.lean); close each card by the builder's one call (the guide's Derived/Test/ToyasCard.lean, 'card_holds'). Laid BY PROGRAM, IN A SANDBOX (cutbox-door.mjs). By AI agents, Wed Nov 11 2026. No macro, syntax, notation, axiom, sorry.
-/
import Derived.Test.YtkjolmbcafonaaaDoorRows
import GoSem.ClaimSeven
namespace Go.Proofs.YtkjolmbcafonaaaDoor
namespace Rows

/-- THE TIED CARD OF 'laws.FnTakeOnce'. -/
def fnTakeOnceCard : Claim7 := { stood := { row := fnTakeOnceRow, standIns := [], harness := (true, "001eeca1303be831eb74162102a44f1001d5e2a6b40793ab8a1b247fdb2dc515"), looks := true }, kinds := [], alts := [], laidByText := true, laidKinds := [.sentinel, .sentinel], laidTests := true, laidLooks := .later }
def FnTakeOnceCardSaid : Prop := Claim7.holds Tryd.pinned (.plain (OpenSpec.ofChange fnTakeOnceSpec)) fnTakeOnceCard

/-- THE TIED CARD OF 'laws.FnTakeExpired'. -/
def fnTakeExpiredCard : Claim7 := { stood := { row := fnTakeExpiredRow, standIns := [], harness := (true, "001eeca1303be831eb74162102a44f1001d5e2a6b40793ab8a1b247fdb2dc515"), looks := true }, kinds := [], alts := [], laidByText := true, laidKinds := [.sentinel, .sentinel], laidTests := true, laidLooks := .later }
def FnTakeExpiredCardSaid : Prop := Claim7.holds Tryd.pinned (.plain (OpenSpec.ofChange fnTakeExpiredSpec)) fnTakeExpiredCard

/-- THE TIED CARD OF 'laws.FnTakeRange'. -/
def fnTakeRangeCard : Claim7 := { stood := { row := fnTakeRangeRow, standIns := [], harness := (true, "001eeca1303be831eb74162102a44f1001d5e2a6b40793ab8a1b247fdb2dc515"), looks := true }, kinds := [], alts := [], laidByText := true, laidKinds := [.sentinel, .sentinel], laidTests := true, laidLooks := .later }
def FnTakeRangeCardSaid : Prop := Claim7.holds Tryd.pinned (.plain (OpenSpec.ofChange fnTakeRangeSpec)) fnTakeRangeCard

/-- THE SECOND FORM's CARD OF 'laws.FnTakeOnce'. -/
def fnTakeOnceUptoCard : Claim7 := { stood := { row := fnTakeOnceUptoRow, standIns := [], harness := (true, "001eeca1303be831eb74162102a44f1001d5e2a6b40793ab8a1b247fdb2dc515"), looks := true }, kinds := [], alts := [], laidByText := true, laidKinds := [.sentinel, .sentinel], laidTests := true, laidLooks := .later }
def FnTakeOnceUptoCardSaid : Prop := Claim7.holds Tryd.pinned (.plain (OpenSpec.upto fnTakeOnceSpec)) fnTakeOnceUptoCard

/-- THE SECOND FORM's CARD OF 'laws.FnTakeExpired'. -/
def fnTakeExpiredUptoCard : Claim7 := { stood := { row := fnTakeExpiredUptoRow, standIns := [], harness := (true, "001eeca1303be831eb74162102a44f1001d5e2a6b40793ab8a1b247fdb2dc515"), looks := true }, kinds := [], alts := [], laidByText := true, laidKinds := [.sentinel, .sentinel], laidTests := true, laidLooks := .later }
def FnTakeExpiredUptoCardSaid : Prop := Claim7.holds Tryd.pinned (.plain (OpenSpec.upto fnTakeExpiredSpec)) fnTakeExpiredUptoCard

/-- THE SECOND FORM's CARD OF 'laws.FnTakeRange'. -/
def fnTakeRangeUptoCard : Claim7 := { stood := { row := fnTakeRangeUptoRow, standIns := [], harness := (true, "001eeca1303be831eb74162102a44f1001d5e2a6b40793ab8a1b247fdb2dc515"), looks := true }, kinds := [], alts := [], laidByText := true, laidKinds := [.sentinel, .sentinel], laidTests := true, laidLooks := .later }
def FnTakeRangeUptoCardSaid : Prop := Claim7.holds Tryd.pinned (.plain (OpenSpec.upto fnTakeRangeSpec)) fnTakeRangeUptoCard
end Rows
end Go.Proofs.YtkjolmbcafonaaaDoor
