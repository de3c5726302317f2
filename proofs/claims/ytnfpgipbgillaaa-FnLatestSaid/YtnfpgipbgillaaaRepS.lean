/- Walks: the reference's l13Replica and l13Less. -/
import Derived.Test.YtnfpgipbgillaaaReg
namespace Go.Proofs.Ytnfpgipbgillaaa
open Go.RowKit
set_option maxHeartbeats 400000
set_option linter.unusedVariables false
theorem less_spec (v r x v' r' x' : Int) (w : World) : Calls Try.prog 42 #[.agg #[.int .i64 v, .int .i64 r, .int .i64 x], .agg #[.int .i64 v', .int .i64 r', .int .i64 x']] w fun e w' => e = .returned (.bool (repOlder v r v' r')) ∧ Below w.heap.size w w' := by
  rcases (by omega : v < v' ∨ v = v' ∨ v' < v) with h | h | h
  · go_enter Try.func42, Try.ntmps42
    go_wp2
    go_ret
    refine ⟨ret_bool (by simp [repOlder, h]), ((Below.refl _ _).alloc (Nat.le_refl _) _).alloc (by simp) _⟩
  · subst h
    go_enter Try.func42, Try.ntmps42
    go_wp2
    go_ret
    refine ⟨ret_bool (by simp [repOlder]), ((Below.refl _ _).alloc (Nat.le_refl _) _).alloc (by simp) _⟩
  · have h1 : ¬ v < v' := by omega
    have h2 : (v == v') = false := by rw [beq_eq_false_iff_ne]; omega
    go_enter Try.func42, Try.ntmps42
    go_wp2
    go_ret
    refine ⟨ret_bool (by unfold repOlder; rw [decide_eq_false (by omega), decide_eq_false (by omega)]; rfl), ((Below.refl _ _).alloc (Nat.le_refl _) _).alloc (by simp) _⟩
theorem in_yes {n lo hi : Int} (h : lo ≤ n ∧ n ≤ hi) (w : World) : Calls Try.prog 24 #[.int .i64 n, .int .i64 lo, .int .i64 hi] w fun e w' => e = .returned (.bool true) ∧ w = w' :=
  (in_any n lo hi w).mono fun _ _ ⟨h1, h2⟩ => ⟨by rw [h1, range_yes h], h2⟩
theorem in_no {n lo hi : Int} (h : ¬ (lo ≤ n ∧ n ≤ hi)) (w : World) : Calls Try.prog 24 #[.int .i64 n, .int .i64 lo, .int .i64 hi] w fun e w' => e = .returned (.bool false) ∧ w = w' :=
  (in_any n lo hi w).mono fun _ _ ⟨h1, h2⟩ => ⟨by rw [h1, range_no h], h2⟩
theorem repOk_spec (v r x : Int) (w : World) : Calls Try.prog 23 #[.agg #[.int .i64 v, .int .i64 r, .int .i64 x]] w fun e w' => e = .returned (.bool (repOk v r x)) ∧ Below w.heap.size w w' := by
  by_cases hv : v = 0
  · subst hv
    by_cases hr : r = 0
    · subst hr
      by_cases hx : x = 0
      · subst hx
        go_enter Try.func23, Try.ntmps23
        go_wp2
        go_ret
        exact ⟨ret_bool repOk_zero.symm, (Below.refl _ _).alloc (Nat.le_refl _) _⟩
      · have H := Lib.hid (repOk_v0 (r := 0) (x := x) (by omega))
        go_enter Try.func23, Try.ntmps23
        go_wp2
        go_ret
        exact ⟨ret_bool H.out.symm, (Below.refl _ _).alloc (Nat.le_refl _) _⟩
    · have H := Lib.hid (repOk_v0 (r := r) (x := x) (by omega))
      go_enter Try.func23, Try.ntmps23
      go_wp2
      go_ret
      exact ⟨ret_bool H.out.symm, (Below.refl _ _).alloc (Nat.le_refl _) _⟩
  · have H := Lib.hid (repOk_v (r := r) (x := x) hv)
    by_cases h1 : 1 ≤ v ∧ v ≤ 99
    · have h1' := range_yes h1
      by_cases h2 : pos r = true
      · have HB := Lib.hid (show okB v r x = (decide (0 ≤ x) && decide (x ≤ 99)) from by unfold okB; rw [h1', h2]; rfl)
        have H1 := fun W => Lib.hid (in_yes h1 W)
        have H2 := fun W => Lib.hid (in_any x 0 99 W)
        clear h1 h1'
        go_enter Try.func23, Try.ntmps23
        go_wp2_with fail
        refine ((H1 _).out).mono ?_; rintro e w' ⟨rfl, rfl⟩
        go_wp2_with fail
        refine (point_any _ _).mono ?_; rintro e w' ⟨rfl, rfl⟩
        go_wp2_with fail
        refine ((H2 _).out).mono ?_; rintro e w' ⟨rfl, rfl⟩
        go_wp2
        go_ret
        exact ⟨ret_bool (by rw [H.out, HB.out]), (Below.refl _ _).alloc (Nat.le_refl _) _⟩
      · have h2 : pos r = false := by simpa using h2
        have HB := Lib.hid (show okB v r x = false from by unfold okB; rw [h2]; simp)
        have H1 := fun W => Lib.hid (in_yes h1 W)
        clear h1 h1'
        go_enter Try.func23, Try.ntmps23
        go_wp2_with fail
        refine ((H1 _).out).mono ?_; rintro e w' ⟨rfl, rfl⟩
        go_wp2_with fail
        refine (point_any _ _).mono ?_; rintro e w' ⟨rfl, rfl⟩
        go_wp2
        go_ret
        exact ⟨ret_bool (by rw [H.out, HB.out]), (Below.refl _ _).alloc (Nat.le_refl _) _⟩
    · have HB := Lib.hid (show okB v r x = false from by unfold okB; rw [range_no h1]; rfl)
      have H1 := fun W => Lib.hid (in_no h1 W)
      clear h1
      go_enter Try.func23, Try.ntmps23
      go_wp2_with fail
      refine ((H1 _).out).mono ?_; rintro e w' ⟨rfl, rfl⟩
      go_wp2
      go_ret
      exact ⟨ret_bool (by rw [H.out, HB.out]), (Below.refl _ _).alloc (Nat.le_refl _) _⟩
end Go.Proofs.Ytnfpgipbgillaaa
