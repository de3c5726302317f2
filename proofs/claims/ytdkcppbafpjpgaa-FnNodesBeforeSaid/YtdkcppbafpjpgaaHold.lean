/- Walks: CircleHolds of the implementation and of the reference, and laws.isPoint. -/
import Derived.Test.YtdkcppbafpjpgaaCirc
namespace Go.Proofs.Ytdkcppbafpjpgaa
open Go.RowKit
set_option maxHeartbeats 400000
set_option linter.unusedVariables false
theorem shld_any (a b k : Int) (w : World) : Calls Try.prog 34 #[.int .i64 a, .int .i64 b, .int .i64 k] w fun e w' => e = .returned (.bool (rhld a b k)) ∧ w = w' := by
  have H := Lib.hid (show rhld a b k = ((k == b) || (rbtw a k b || a == b)) from rfl)
  by_cases h1 : (k == b) = true
  all_goals
    try have h1 : (k == b) = false := by simpa using h1
    by_cases h2 : rbtw a k b = true
    all_goals
      try have h2 : rbtw a k b = false := by simpa using h2
      have H1 := Lib.hid h1
      go_enter Try.func34, Try.ntmps34
      go_wp2_with (go_at_call 33; refine (sbtw_any _ _ _ _).mono ?_; rintro e w' ⟨rfl, rfl⟩)
      go_ret
      exact ⟨ret_bool (by rw [H.out, H1.out, h2]; simp), rfl⟩
theorem ch_spec (a b k : Int) (w : World) : Calls Try.prog 16 #[.int .i64 a, .int .i64 b, .int .i64 k] w fun e w' => e = .returned (.bool (hld a b k)) ∧ w = w' := by
  have H := Lib.hid (show hld a b k = (pos a && (pos b && (pos k && rhld a b k))) from rfl)
  by_cases ha : pos a = true
  all_goals
    try have ha : pos a = false := by simpa using ha
    by_cases hb : pos b = true
    all_goals
      try have hb : pos b = false := by simpa using hb
      by_cases hk : pos k = true
      all_goals
        try have hk : pos k = false := by simpa using hk
        go_enter Try.func16, Try.ntmps16
        go_wp2_with (first
          | (go_at_call 32; refine (point_any _ _).mono ?_; rintro e w' ⟨rfl, rfl⟩)
          | (go_at_call 34; refine (shld_any _ _ _ _).mono ?_; rintro e w' ⟨rfl, rfl⟩))
        go_ret
        exact ⟨ret_bool (by rw [H.out, ha, hb, hk]; simp), rfl⟩
theorem ch_impl (a b k : Int) (w : World) : Calls Try.prog 15 #[.int .i64 a, .int .i64 b, .int .i64 k] w fun e w' => e = .returned (.bool (hld a b k)) ∧ Below w.heap.size w w' := by
  by_cases hp : allPos [a, b, k] = true
  · have hh : pos a = true ∧ pos b = true ∧ pos k = true := by rw [allPos3] at hp; simpa [and_assoc] using hp
    have H := Lib.hid (show hld a b k = ((btw a k b || k == b) || a == b) from by rw [hld_btw, hh.1, hh.2.1, hh.2.2]; simp)
    clear hh
    by_cases h1 : btw a k b = true
    all_goals
      try have h1 : btw a k b = false := by simpa using h1
      by_cases h2 : (k == b) = true
      all_goals
        try have h2 : (k == b) = false := by simpa using h2
        have H2 := Lib.hid h2
        go_enter Try.func15, Try.ntmps15
        go_wp2_with fail
        refine (positions3 a b k _).mono ?_; rintro e w' ⟨rfl, rfl⟩
        go_wp2_with fail
        refine (cb_impl a k b _).mono ?_; rintro e w1 ⟨rfl, hb1⟩
        go_wp2
        go_ret
        exact ⟨ret_bool (by rw [H.out, h1, H2.out]; simp), below_after hb1⟩
  · have hp : allPos [a, b, k] = false := by simpa using hp
    have H := Lib.hid (show hld a b k = false from by rw [hld_btw]; rw [allPos3] at hp; revert hp; cases pos a <;> cases pos b <;> cases pos k <;> simp)
    go_enter Try.func15, Try.ntmps15
    go_wp2_with (go_at_call 31; refine (positions3 a b k _).mono ?_; rintro e w' ⟨rfl, rfl⟩)
    go_ret
    exact ⟨ret_bool H.out.symm, (Below.refl _ _).alloc (Nat.le_refl _) _⟩
theorem isPoint_any (n : Int) (w : World) : Calls Try.prog 13 #[.int .i64 n] w fun e w' => e = .returned (.bool (pos n)) ∧ w = w' := by
  by_cases h : 0 ≤ n
  all_goals
    go_enter Try.func13, Try.ntmps13
    go_wp2
    go_ret
    exact ⟨ret_bool (by simp [pos]; omega), rfl⟩
end Go.Proofs.Ytdkcppbafpjpgaa
