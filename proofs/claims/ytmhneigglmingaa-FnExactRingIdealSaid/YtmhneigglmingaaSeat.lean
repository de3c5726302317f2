/- The closed facts of this seat's program that every law's row asks, proved once: the dump's head is a plain cut; the memory's layout; no knob. -/
import Derived.Test.YtmhneigglmingaaBase
import Derived.ProofKit
namespace Go.Proofs.Ytmhneigglmingaa
set_option linter.unusedVariables false
set_option maxRecDepth 100000
theorem andI {a b : Bool} (h : a = true) (k : b = true) : (a && b) = true := by rw [h, k]; rfl
noncomputable def headL : List Char := by
  have : { l : List Char // Try.prog.initOrder = String.ofList l } := by
    unfold Try.prog Try.progTables
    exact ⟨_, rfl⟩
  exact this.1
theorem initL : Try.prog.initOrder.toList = headL := by
  have : Try.prog.initOrder = String.ofList headL := by kernel_rfl
  rw [this, String.toList_ofList]
theorem words : (behindMainWord (wordsSigns headL)).head? = some "cut".toList := by kernel_rfl
theorem words2 : ∃ rest, behindMainWord (wordsSigns Try.prog.initOrder.toList) = "cut".toList :: rest := by
  rw [initL]
  have h := words
  cases e : behindMainWord (wordsSigns headL) with
  | nil => rw [e] at h; cases h
  | cons c r => rw [e] at h; injection h with h; exact ⟨r, by rw [h]⟩
theorem make_of {P : Program} {rest : List (List Char)} (h : behindMainWord (wordsSigns P.initOrder.toList) = "cut".toList :: rest) : P.make = some .cut := by
  unfold Program.make; rw [h]; simp
theorem lifts_of {rest : List (List Char)} : stripLifts liftWords ("cut".toList :: rest) = ([], "cut".toList :: rest) := by
  simp [liftWords, stripLifts]
theorem liftsFinal_of {P : Program} {rest : List (List Char)} (h : behindMainWord (wordsSigns P.initOrder.toList) = "cut".toList :: rest) : P.liftsFinal = false := by
  unfold Program.liftsFinal Program.headLifts; rw [h, lifts_of]; simp
theorem mayEnter_of {P : Program} {rest : List (List Char)} (h : behindMainWord (wordsSigns P.initOrder.toList) = "cut".toList :: rest) (h1 : P.laysLater = false) (h2 : P.bearsReflect = false) (h3 : P.doorFits [] = true) : P.mayEnter = true := by
  unfold Program.mayEnter; rw [h]; simp only [lifts_of]; simp [h1, h2, h3]
theorem mayEnter : Try.prog.mayEnter = true := by
  obtain ⟨r, h⟩ := words2
  exact mayEnter_of h (by kernel_rfl) (by kernel_rfl) (by kernel_rfl)
theorem liftsFinal : Try.prog.liftsFinal = false := by
  obtain ⟨r, h⟩ := words2
  exact liftsFinal_of h
theorem makeCut : Try.prog.make = some .cut := by
  obtain ⟨r, h⟩ := words2
  exact make_of h
theorem own : ownKnob Try.prog.godebug = none := by kernel_rfl
theorem laidOut : laidOutB Try.prog = true := by kernel_rfl
theorem rowed : mapsRowed Try.prog = true := by kernel_rfl
theorem heard : Try.prog.stopsHeard = true := by kernel_rfl
theorem plain_keys : Try.prog.plainKeys = true := by kernel_rfl
end Go.Proofs.Ytmhneigglmingaa
