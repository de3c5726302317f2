/- Walks: replicas: the implementation's ok and older, the reference's l13Replica and l13Less, the laws' toReplica, eqReplica, older. -/
import Derived.Test.YtnfpgipbgillaaaTri
namespace Go.Proofs.Ytnfpgipbgillaaa
open Go.RowKit
set_option maxHeartbeats 400000
set_option linter.unusedVariables false
def repOk (v wr x : Int) : Bool := (decide (v = 0 ∧ wr = 0 ∧ x = 0)) || ((decide (1 ≤ v) && decide (v ≤ 99)) && pos wr && (decide (0 ≤ x) && decide (x ≤ 99)))
def repOlder (v wr v' wr' : Int) : Bool := decide (v < v') || (decide (v = v') && decide (wr < wr'))
theorem older_impl (v r x v' r' x' : Int) (w : World) : Calls Try.prog 28 #[.agg #[.int .i64 v, .int .i64 r, .int .i64 x], .agg #[.int .i64 v', .int .i64 r', .int .i64 x']] w fun e w' => e = .returned (.bool (repOlder v r v' r')) ∧ Below w.heap.size w w' := by
  rcases (by omega : v < v' ∨ v = v' ∨ v' < v) with h | h | h
  · go_enter Try.func28, Try.ntmps28
    go_wp2
    go_ret
    refine ⟨ret_bool (by simp [repOlder, h]), ((Below.refl _ _).alloc (Nat.le_refl _) _).alloc (by simp) _⟩
  · subst h
    go_enter Try.func28, Try.ntmps28
    go_wp2
    go_ret
    refine ⟨ret_bool (by simp [repOlder]), ((Below.refl _ _).alloc (Nat.le_refl _) _).alloc (by simp) _⟩
  · have h1 : ¬ v < v' := by omega
    have h2 : (v == v') = false := by rw [beq_eq_false_iff_ne]; omega
    go_enter Try.func28, Try.ntmps28
    go_wp2
    go_ret
    refine ⟨ret_bool (by unfold repOlder; rw [decide_eq_false (by omega), decide_eq_false (by omega)]; rfl), ((Below.refl _ _).alloc (Nat.le_refl _) _).alloc (by simp) _⟩
def okB (v wr x : Int) : Bool := (decide (1 ≤ v) && decide (v ≤ 99)) && (pos wr && (decide (0 ≤ x) && decide (x ≤ 99)))
theorem repOk_zero : repOk 0 0 0 = true := rfl
theorem repOk_v0 {r x : Int} (h : ¬ (r = 0 ∧ x = 0)) : repOk 0 r x = false := by unfold repOk; simp; omega
theorem repOk_v {v r x : Int} (h : ¬ v = 0) : repOk v r x = okB v r x := by unfold repOk okB; simp [h, Bool.and_assoc]
theorem range_yes {lo n hi : Int} (h : lo ≤ n ∧ n ≤ hi) : (decide (lo ≤ n) && decide (n ≤ hi)) = true := by simp [h.1, h.2]
theorem range_no {lo n hi : Int} (h : ¬ (lo ≤ n ∧ n ≤ hi)) : (decide (lo ≤ n) && decide (n ≤ hi)) = false := by simp; omega
theorem inRange_yes {n lo hi : Int} (h : lo ≤ n ∧ n ≤ hi) (w : World) : Calls Try.prog 26 #[.int .i64 n, .int .i64 lo, .int .i64 hi] w fun e w' => e = .returned (.bool true) ∧ w = w' :=
  (inRange_any n lo hi w).mono fun _ _ ⟨h1, h2⟩ => ⟨by rw [h1, range_yes h], h2⟩
theorem inRange_no {n lo hi : Int} (h : ¬ (lo ≤ n ∧ n ≤ hi)) (w : World) : Calls Try.prog 26 #[.int .i64 n, .int .i64 lo, .int .i64 hi] w fun e w' => e = .returned (.bool false) ∧ w = w' :=
  (inRange_any n lo hi w).mono fun _ _ ⟨h1, h2⟩ => ⟨by rw [h1, range_no h], h2⟩
theorem repOk_impl (v r x : Int) (w : World) : Calls Try.prog 27 #[.agg #[.int .i64 v, .int .i64 r, .int .i64 x]] w fun e w' => e = .returned (.bool (repOk v r x)) ∧ Below w.heap.size w w' := by
  by_cases hv : v = 0
  · subst hv
    have hr0 : ¬ ((1 : Int) ≤ 0 ∧ (0 : Int) ≤ 99) := by omega
    by_cases hr : r = 0
    · subst hr
      by_cases hx : x = 0
      · subst hx
        go_enter Try.func27, Try.ntmps27
        go_wp2
        go_ret
        exact ⟨ret_bool repOk_zero.symm, (Below.refl _ _).alloc (Nat.le_refl _) _⟩
      · have H := Lib.hid (repOk_v0 (r := 0) (x := x) (by omega))
        go_enter Try.func27, Try.ntmps27
        go_wp2_with (go_at_call 26; refine (inRange_no hr0 _).mono ?_; rintro e w' ⟨rfl, rfl⟩)
        go_ret
        exact ⟨ret_bool H.out.symm, (Below.refl _ _).alloc (Nat.le_refl _) _⟩
    · have H := Lib.hid (repOk_v0 (r := r) (x := x) (by omega))
      go_enter Try.func27, Try.ntmps27
      go_wp2_with (go_at_call 26; refine (inRange_no hr0 _).mono ?_; rintro e w' ⟨rfl, rfl⟩)
      go_ret
      exact ⟨ret_bool H.out.symm, (Below.refl _ _).alloc (Nat.le_refl _) _⟩
  · have H := Lib.hid (repOk_v (r := r) (x := x) hv)
    by_cases h1 : 1 ≤ v ∧ v ≤ 99
    · have h1' := range_yes h1
      by_cases h2 : pos r = true
      · have HB := Lib.hid (show okB v r x = (decide (0 ≤ x) && decide (x ≤ 99)) from by unfold okB; rw [h1', h2]; rfl)
        have H1 := fun W => Lib.hid (inRange_yes h1 W)
        have H2 := fun W => Lib.hid (inRange_any x 0 99 W)
        clear h1 h1'
        go_enter Try.func27, Try.ntmps27
        go_wp2_with fail
        refine ((H1 _).out).mono ?_; rintro e w' ⟨rfl, rfl⟩
        go_wp2_with fail
        refine (ok_any _ _).mono ?_; rintro e w' ⟨rfl, rfl⟩
        go_wp2_with fail
        refine ((H2 _).out).mono ?_; rintro e w' ⟨rfl, rfl⟩
        go_wp2
        go_ret
        exact ⟨ret_bool (by rw [H.out, HB.out]), (Below.refl _ _).alloc (Nat.le_refl _) _⟩
      · have h2 : pos r = false := by simpa using h2
        have HB := Lib.hid (show okB v r x = false from by unfold okB; rw [h2]; simp)
        have H1 := fun W => Lib.hid (inRange_yes h1 W)
        clear h1 h1'
        go_enter Try.func27, Try.ntmps27
        go_wp2_with fail
        refine ((H1 _).out).mono ?_; rintro e w' ⟨rfl, rfl⟩
        go_wp2_with fail
        refine (ok_any _ _).mono ?_; rintro e w' ⟨rfl, rfl⟩
        go_wp2
        go_ret
        exact ⟨ret_bool (by rw [H.out, HB.out]), (Below.refl _ _).alloc (Nat.le_refl _) _⟩
    · have HB := Lib.hid (show okB v r x = false from by unfold okB; rw [range_no h1]; rfl)
      have H1 := fun W => Lib.hid (inRange_no h1 W)
      clear h1
      go_enter Try.func27, Try.ntmps27
      go_wp2_with fail
      refine ((H1 _).out).mono ?_; rintro e w' ⟨rfl, rfl⟩
      go_wp2
      go_ret
      exact ⟨ret_bool (by rw [H.out, HB.out]), (Below.refl _ _).alloc (Nat.le_refl _) _⟩
end Go.Proofs.Ytnfpgipbgillaaa
