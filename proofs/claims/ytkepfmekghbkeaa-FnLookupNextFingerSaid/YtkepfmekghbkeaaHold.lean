/- Walks: CircleHolds of the implementation and of the reference, and laws.isPoint. -/
import Derived.Test.YtkepfmekghbkeaaCirc
namespace Go.Proofs.Ytkepfmekghbkeaa
open Go.RowKit
set_option maxHeartbeats 400000
set_option linter.unusedVariables false
theorem shld_any (a b k : Int) (w : World) : Calls Try.prog 43 #[.int .i64 a, .int .i64 b, .int .i64 k] w fun e w' => e = .returned (.bool (rhld a b k)) ∧ w = w' := by
  have H := Lib.hid (show rhld a b k = ((k == b) || (rbtw a k b || a == b)) from rfl)
  by_cases h1 : (k == b) = true
  all_goals
    try have h1 : (k == b) = false := by simpa using h1
    by_cases h2 : rbtw a k b = true
    all_goals
      try have h2 : rbtw a k b = false := by simpa using h2
      have H1 := Lib.hid h1
      go_enter Try.func43, Try.ntmps43
      go_wp2_with (go_at_call 44; refine (sbtw_any _ _ _ _).mono ?_; rintro e w' ⟨rfl, rfl⟩)
      go_ret
      exact ⟨ret_bool (by rw [H.out, H1.out, h2]; simp), rfl⟩
theorem ch_impl (a b k : Int) (w : World) : Calls Try.prog 32 #[.int .i64 a, .int .i64 b, .int .i64 k] w fun e w' => e = .returned (.bool (hld a b k)) ∧ Below w.heap.size w w' := by
  by_cases hp : allPos [a, b, k] = true
  · have hh : pos a = true ∧ pos b = true ∧ pos k = true := by rw [allPos3] at hp; simpa [and_assoc] using hp
    have H := Lib.hid (show hld a b k = ((btw a k b || k == b) || a == b) from by rw [hld_btw, hh.1, hh.2.1, hh.2.2]; simp)
    clear hh
    by_cases h1 : btw a k b = true
    all_goals
      try have h1 : btw a k b = false := by simpa using h1
      by_cases h2 : (k == b) = true
      all_goals
        try have h2 : (k == b) = false := by simpa using h2
        have H2 := Lib.hid h2
        go_enter Try.func32, Try.ntmps32
        go_wp2_with fail
        refine (positions3 a b k _).mono ?_; rintro e w' ⟨rfl, rfl⟩
        go_wp2_with fail
        refine (cb_impl a k b _).mono ?_; rintro e w1 ⟨rfl, hb1⟩
        go_wp2
        go_ret
        exact ⟨ret_bool (by rw [H.out, h1, H2.out]; simp), below_after hb1⟩
  · have hp : allPos [a, b, k] = false := by simpa using hp
    have H := Lib.hid (show hld a b k = false from by rw [hld_btw]; rw [allPos3] at hp; revert hp; cases pos a <;> cases pos b <;> cases pos k <;> simp)
    go_enter Try.func32, Try.ntmps32
    go_wp2_with (go_at_call 33; refine (positions3 a b k _).mono ?_; rintro e w' ⟨rfl, rfl⟩)
    go_ret
    exact ⟨ret_bool H.out.symm, (Below.refl _ _).alloc (Nat.le_refl _) _⟩
end Go.Proofs.Ytkepfmekghbkeaa
