/-
  DERIVED. GIVEN WITH THE SEED: THE CARDS: each row of YtmhmnopmafdmaaaDoorRows.lean that lists a variable, with what it lists TIED to the program's text (the seventh form; the later family's looks); each row that meets fmt, with fmt's text TOLD by the authors' own Lean function (tested against real Go, not proved from fmt's source: count such statements apart). THE CARD IS WHAT COUNTS. Prove the row's statement (the work); the ties are given (YtmhmnopmafdmaaaDoorTie.lean); close each card by the builder's one call (the guide's Derived/Test/ToyasCard.lean, 'card_holds'). Laid BY PROGRAM, IN A SANDBOX (cutbox-door.mjs). By AI agents, Wed Nov 11 2026. No macro, syntax, notation, axiom, sorry.
-/
import Derived.Test.YtmhmnopmafdmaaaDoorRows
import GoSem.ClaimSeven
namespace Go.Proofs.YtmhmnopmafdmaaaDoor
namespace Rows

/-- THE TIED CARD OF 'laws.FnExactLeaseTake'. -/
def fnExactLeaseTakeCard : Claim7 := { stood := { row := fnExactLeaseTakeRow, standIns := [], harness := (true, "5e5a235d9285e837577c0bc6c0f195a8f9c923d5aba96c8d4192336aad4d6508"), looks := true }, kinds := [], alts := [], laidByText := true, laidKinds := [.sentinel, .sentinel], laidTests := true, laidLooks := .later }
def FnExactLeaseTakeCardSaid : Prop := Claim7.holds Tryd.pinned (.plain (OpenSpec.ofChange fnExactLeaseTakeSpec)) fnExactLeaseTakeCard

/-- THE SECOND FORM's CARD OF 'laws.FnExactLeaseTake'. -/
def fnExactLeaseTakeUptoCard : Claim7 := { stood := { row := fnExactLeaseTakeUptoRow, standIns := [], harness := (true, "5e5a235d9285e837577c0bc6c0f195a8f9c923d5aba96c8d4192336aad4d6508"), looks := true }, kinds := [], alts := [], laidByText := true, laidKinds := [.sentinel, .sentinel], laidTests := true, laidLooks := .later }
def FnExactLeaseTakeUptoCardSaid : Prop := Claim7.holds Tryd.pinned (.plain (OpenSpec.upto fnExactLeaseTakeSpec)) fnExactLeaseTakeUptoCard
end Rows
end Go.Proofs.YtmhmnopmafdmaaaDoor
