/- Walks: the functions on positions (impl.position.ok, up, positions, CircleDistance, CircleBetween, CircleHolds and the reference's twins): each returns what the plain definition says, for all integers. -/
import Derived.Test.YtmhneigglmingaaPosn
namespace Go.Proofs.Ytmhneigglmingaa
open Go.RowKit
set_option maxHeartbeats 400000
set_option linter.unusedVariables false

theorem up_any (p q : Int) (hp : 0 ≤ p) (hp' : p < 64) (hq : 0 ≤ q) (hq' : q < 64) (w : World) : Calls Try.prog 68 #[.int .i64 p, .int .i64 q] w fun e w' => e = .returned (.int .i64 (dst p q)) ∧ w = w' := by
  go_enter Try.func68, Try.ntmps68
  go_wp2
  go_ret
  exact ⟨rfl, rfl⟩

theorem cd_impl (a b : Int) (w : World) : Calls Try.prog 67 #[.int .i64 a, .int .i64 b] w fun e w' => e = .returned (.int .i64 (cdist a b)) ∧ Below w.heap.size w w' := by
  by_cases ha : pos a = true ∧ pos b = true
  · have h1 : allPos [a, b] = true := by rw [allPos2, ha.1, ha.2]; rfl
    have h2 := pos_iff.1 ha.1
    have h3 := pos_iff.1 ha.2
    have HC := Lib.hid (cdist_yes h2.1 h2.2 h3.1 h3.2)
    obtain ⟨a1, a2⟩ := h2
    obtain ⟨b1, b2⟩ := h3
    clear ha
    go_enter Try.func67, Try.ntmps67
    go_wp2_with (first
      | (go_at_call 34; refine (positions2 a b _).mono ?_; rintro e w' ⟨rfl, rfl⟩)
      | (go_at_call 68; refine (up_any a b a1 a2 b1 b2 _).mono ?_; rintro e w' ⟨rfl, rfl⟩))
    go_ret
    exact ⟨ret_int HC.out.symm, (Below.refl _ _).alloc (Nat.le_refl _) _⟩
  · have h1 : allPos [a, b] = false := by rw [allPos2]; revert ha; cases pos a <;> cases pos b <;> simp
    have HC := Lib.hid (show cdist a b = -1 from by unfold cdist; rw [if_neg ha])
    clear ha
    go_enter Try.func67, Try.ntmps67
    go_wp2_with (go_at_call 34; refine (positions2 a b _).mono ?_; rintro e w' ⟨rfl, rfl⟩)
    go_ret
    exact ⟨ret_int HC.out.symm, (Below.refl _ _).alloc (Nat.le_refl _) _⟩

/-! ### The reference's functions -/
theorem sbtw_any (a x b : Int) (w : World) : Calls Try.prog 66 #[.int .i64 a, .int .i64 x, .int .i64 b] w fun e w' => e = .returned (.bool (rbtw a x b)) ∧ w = w' := by
  by_cases h : a < b
  all_goals
    by_cases h1 : a < x
    all_goals
      go_enter Try.func66, Try.ntmps66
      go_wp2
      go_ret
      exact ⟨ret_bool (by rw [Bool.eq_iff_iff]; unfold rbtw; split <;> simp <;> omega), rfl⟩

theorem cb_impl (a x b : Int) (w : World) : Calls Try.prog 58 #[.int .i64 a, .int .i64 x, .int .i64 b] w fun e w' => e = .returned (.bool (btw a x b)) ∧ Below w.heap.size w w' := by
  by_cases hp : allPos [a, x, b] = true
  · have hh : pos a = true ∧ pos x = true ∧ pos b = true := by rw [allPos3] at hp; simpa [and_assoc] using hp
    have pa := pos_iff.1 hh.1
    have px := pos_iff.1 hh.2.1
    have pb := pos_iff.1 hh.2.2
    clear hh
    by_cases h1 : x = a
    · subst h1
      have H := Lib.hid (btw_eq_a x b)
      go_enter Try.func58, Try.ntmps58
      go_wp2_with (go_at_call 34; refine (positions3 x x b _).mono ?_; rintro e w' ⟨rfl, rfl⟩)
      go_ret
      exact ⟨ret_bool H.out.symm, (Below.refl _ _).alloc (Nat.le_refl _) _⟩
    · by_cases h2 : x = b
      · subst h2
        have H := Lib.hid (btw_eq_b a x)
        have h1' : (x == a) = false := by simpa using h1
        go_enter Try.func58, Try.ntmps58
        go_wp2_with (go_at_call 34; refine (positions3 a x x _).mono ?_; rintro e w' ⟨rfl, rfl⟩)
        go_ret
        exact ⟨ret_bool H.out.symm, (Below.refl _ _).alloc (Nat.le_refl _) _⟩
      · have H := Lib.hid (btw_dst pa px pb h1 h2)
        have h1' : (x == a) = false := by simpa using h1
        have h2' : (x == b) = false := by simpa using h2
        have c1 := Lib.hid (cdist_yes pa.1 pa.2 px.1 px.2)
        have c2 := Lib.hid (cdist_yes pa.1 pa.2 pb.1 pb.2)
        by_cases h3 : a = b
        · subst h3
          go_enter Try.func58, Try.ntmps58
          go_wp2_with (go_at_call 34; refine (positions3 a x a _).mono ?_; rintro e w' ⟨rfl, rfl⟩)
          go_ret
          exact ⟨ret_bool (by rw [H.out]; simp), (Below.refl _ _).alloc (Nat.le_refl _) _⟩
        · have h3' : (a == b) = false := by simpa using h3
          go_enter Try.func58, Try.ntmps58
          go_wp2_with fail
          refine (positions3 a x b _).mono ?_; rintro e w' ⟨rfl, rfl⟩
          go_wp2_with fail
          refine (cd_impl a x _).mono ?_; rintro e w1 ⟨rfl, hb1⟩
          go_wp2_with fail
          refine (cd_impl a b _).mono ?_; rintro e w2 ⟨rfl, hb2⟩
          go_wp2
          go_ret
          exact ⟨ret_bool (by rw [H.out, c1.out, c2.out]; simp [h3]), below_next (below_after hb1) hb2⟩
  · have hp : allPos [a, x, b] = false := by simpa using hp
    have H := Lib.hid (show btw a x b = false from btw_no (by rw [allPos3] at hp; revert hp; cases pos a <;> cases pos x <;> cases pos b <;> simp))
    go_enter Try.func58, Try.ntmps58
    go_wp2_with (go_at_call 34; refine (positions3 a x b _).mono ?_; rintro e w' ⟨rfl, rfl⟩)
    go_ret
    exact ⟨ret_bool H.out.symm, (Below.refl _ _).alloc (Nat.le_refl _) _⟩
end Go.Proofs.Ytmhneigglmingaa
