/- Walks: sets of nodes: NodesValid of the implementation and of the reference. -/
import Derived.Test.YtmhneigglmingaaCirB
namespace Go.Proofs.Ytmhneigglmingaa
open Go.RowKit
set_option maxHeartbeats 400000
set_option linter.unusedVariables false
theorem ascending_any (B : Nat) (A : Option Addr) (c : Nat) (xs : List Int) (hl : xs.length ≤ maxLen) (w : World) (h : NumsAt .i64 w B A xs) :
    Calls Try.prog 55 #[.slice A xs.length c] w fun e w' => e = .returned (.bool (asc xs)) ∧ w = w' := by
  unfold maxLen at hl
  go_enter Try.func55, Try.ntmps55
  go_wp2
  go_loop [7] (fun i => ∃ k : Nat, k ≤ xs.length ∧ i = .int .i64 k ∧ ascTo xs k = true) (fun i => xs.length - (intOf i).toNat)
  case atStart => exact ⟨0, Nat.zero_le _, rfl, rfl⟩
  case round =>
    obtain ⟨k, hk, rfl, hall⟩ := hrel
    have Hall := Lib.hid hall
    clear hall
    by_cases hlt : k < xs.length
    · obtain ⟨ad, x, rfl, -, hx, hc⟩ := h k hlt
      have HS := Lib.hid (ascTo_succ xs k)
      have HF := Lib.hid (asc_false xs k hlt)
      rcases k with _ | j
      · have HA := Lib.hid (ascAt_zero xs x hx)
        rw [addr_zero] at hc
        clear h hx
        by_cases hp : pos x = true
        · go_wp2_with (go_at_call 33; refine (ok_any _ _).mono ?_; rintro e w' ⟨rfl, rfl⟩)
          go_round
          case rel => exact ⟨1, by omega, by go_num, by rw [HS.out, Hall.out, HA.out, hp]; rfl⟩
          case measure => simp [intOf]; omega
        · have hp : pos x = false := by simpa using hp
          go_wp2_with (go_at_call 33; refine (ok_any _ _).mono ?_; rintro e w' ⟨rfl, rfl⟩)
          go_ret
          exact ⟨ret_bool (HF.out (by rw [HA.out, hp])).symm, rfl⟩
      · obtain ⟨ad', y, he, -, hy, hc'⟩ := h j (by omega)
        injection he with he
        subst he
        have HA := Lib.hid (ascAt_succ xs j x y hy hx)
        rw [addr_succ] at hc
        clear h hx hy
        by_cases hp : pos x = true
        · by_cases hyx : y < x
          · have hyx' : decide (x ≤ y) = false := by simpa using hyx
            go_wp2_with (go_at_call 33; refine (ok_any _ _).mono ?_; rintro e w' ⟨rfl, rfl⟩)
            go_round
            case rel => exact ⟨j + 2, by omega, by go_num, by rw [HS.out, Hall.out, HA.out, hp]; simp [hyx]⟩
            case measure => simp [intOf]; omega
          · have hyx' : x ≤ y := by omega
            go_wp2_with (go_at_call 33; refine (ok_any _ _).mono ?_; rintro e w' ⟨rfl, rfl⟩)
            go_ret
            exact ⟨ret_bool (HF.out (by rw [HA.out, hp]; simp; omega)).symm, rfl⟩
        · have hp : pos x = false := by simpa using hp
          go_wp2_with (go_at_call 33; refine (ok_any _ _).mono ?_; rintro e w' ⟨rfl, rfl⟩)
          go_ret
          exact ⟨ret_bool (HF.out (by rw [HA.out, hp]; simp)).symm, rfl⟩
    · clear h
      go_wp2
      go_ret
      refine ⟨ret_bool ?_, rfl⟩
      have : k = xs.length := by omega
      subst this
      rw [← Hall.out]; rfl

theorem nval_impl (B : Nat) (A : Option Addr) (c : Nat) (xs : List Int) (hl : xs.length ≤ maxLen) (w : World) (h : NumsAt .i64 w B A xs) :
    Calls Try.prog 38 #[.slice A xs.length c] w fun e w' => e = .returned (.bool (nval xs)) ∧ w = w' := by
  have H := Lib.hid (show nval xs = (decide (1 ≤ xs.length ∧ xs.length ≤ 10) && asc xs) from rfl)
  have HC := Lib.hid (ascending_any B A c xs hl w h)
  clear h
  unfold maxLen at hl
  rcases (by omega : xs.length = 0 ∨ (1 ≤ xs.length ∧ xs.length ≤ 10) ∨ 10 < xs.length) with h1 | ⟨h1, h2⟩ | h1
  · have hx := List.eq_nil_of_length_eq_zero h1
    subst hx
    clear h1
    go_enter Try.func38, Try.ntmps38
    go_wp2_with (go_at_call 54; refine (inRange_any _ _ _ _).mono ?_; rintro e w' ⟨rfl, rfl⟩)
    go_ret
    exact ⟨ret_bool (by rw [H.out]; rfl), rfl⟩
  · go_enter Try.func38, Try.ntmps38
    go_wp2_with (first
        | (go_at_call 54; refine (inRange_any _ _ _ _).mono ?_; rintro e w' ⟨rfl, rfl⟩)
        | (go_at_call 55; refine (HC.out).mono ?_; rintro e w' ⟨rfl, rfl⟩))
    go_ret
    exact ⟨ret_bool (by rw [H.out]; simp [h1, h2]), rfl⟩
  · go_enter Try.func38, Try.ntmps38
    go_wp2_with (go_at_call 54; refine (inRange_any _ _ _ _).mono ?_; rintro e w' ⟨rfl, rfl⟩)
    go_ret
    exact ⟨ret_bool (by rw [H.out, decide_eq_false (by omega)]; rfl), rfl⟩

/-! ### The reference's functions -/
theorem snodes_any (B : Nat) (A : Option Addr) (c : Nat) (xs : List Int) (hl : xs.length ≤ maxLen) (w : World) (h : NumsAt .i64 w B A xs) :
    Calls Try.prog 53 #[.slice A xs.length c] w fun e w' => e = .returned (.bool (asc xs)) ∧ ∃ n, w' = w.drewN n := by
  unfold maxLen at hl
  go_enter Try.func53, Try.ntmps53
  go_wp2
  go_loopw [3] (fun i wr => ∃ k : Nat, k ≤ xs.length ∧ i = .int .i64 k ∧ ascTo xs k = true ∧ ∃ n, wr = w.drewN n) (fun i _ => xs.length - (intOf i).toNat)
  case atStart => exact ⟨0, Nat.zero_le _, rfl, rfl, 0, rfl⟩
  case round =>
    obtain ⟨k, hk, rfl, hall, hw⟩ := hrel
    have Hall := Lib.hid hall
    have HW := Lib.hid hw
    replace h : NumsAt .i64 wr B A xs := by obtain ⟨n, rfl⟩ := hw; exact h.drewN n
    clear hall hw
    by_cases hlt : k < xs.length
    · obtain ⟨ad, x, rfl, -, hx, hc⟩ := h k hlt
      have HS := Lib.hid (ascTo_succ xs k)
      have HF := Lib.hid (asc_false xs k hlt)
      rcases k with _ | j
      · have HA := Lib.hid (ascAt_zero xs x hx)
        rw [addr_zero] at hc
        clear h hx
        by_cases hp : pos x = true
        · go_wp2
          go_quiet ((go_at_call 31; exact Calls.quiet_of_same (point_left _ _)))
          go_wp2
          go_roundw
          case rel => exact ⟨1, by omega, by go_num, by rw [HS.out, Hall.out, HA.out, hp]; rfl, drewN_more HW.out⟩
          case measure => simp [intOf]; omega
        · have hp : pos x = false := by simpa using hp
          go_wp2
          go_quiet ((go_at_call 31; exact Calls.quiet_of_same (point_left _ _)))
          go_wp2
          go_ret
          exact ⟨ret_bool (HF.out (by rw [HA.out, hp])).symm, drewN_more HW.out⟩
      · obtain ⟨ad', y, he, -, hy, hc'⟩ := h j (by omega)
        injection he with he
        subst he
        have HA := Lib.hid (ascAt_succ xs j x y hy hx)
        rw [addr_succ] at hc
        clear h hx hy
        by_cases hp : pos x = true
        · by_cases hyx : y < x
          · have hyx' : decide (x ≤ y) = false := by simpa using hyx
            go_wp2
            go_quiet ((go_at_call 31; exact Calls.quiet_of_same (point_left _ _)))
            go_wp2
            go_roundw
            case rel => exact ⟨j + 2, by omega, by go_num, by rw [HS.out, Hall.out, HA.out, hp]; simp [hyx], drewN_more HW.out⟩
            case measure => simp [intOf]; omega
          · have hyx' : x ≤ y := by omega
            go_wp2
            go_quiet ((go_at_call 31; exact Calls.quiet_of_same (point_left _ _)))
            go_wp2
            go_ret
            exact ⟨ret_bool (HF.out (by rw [HA.out, hp]; simp; omega)).symm, drewN_more HW.out⟩
        · have hp : pos x = false := by simpa using hp
          go_wp2
          go_quiet ((go_at_call 31; exact Calls.quiet_of_same (point_left _ _)))
          go_wp2
          go_ret
          exact ⟨ret_bool (HF.out (by rw [HA.out, hp]; simp)).symm, drewN_more HW.out⟩
    · clear h
      go_wp2
      go_ret
      refine ⟨ret_bool ?_, HW.out⟩
      have : k = xs.length := by omega
      subst this
      rw [← Hall.out]; rfl

theorem nval_spec (B : Nat) (A : Option Addr) (c : Nat) (xs : List Int) (hl : xs.length ≤ maxLen) (w : World) (h : NumsAt .i64 w B A xs) :
    Calls Try.prog 36 #[.slice A xs.length c] w fun e w' => e = .returned (.bool (nval xs)) ∧ ∃ n, w' = w.drewN n := by
  have H := Lib.hid (show nval xs = (decide (1 ≤ xs.length ∧ xs.length ≤ 10) && asc xs) from rfl)
  have HC := Lib.hid (snodes_any B A c xs hl w h)
  clear h
  unfold maxLen at hl
  rcases (by omega : xs.length = 0 ∨ (1 ≤ xs.length ∧ xs.length ≤ 10) ∨ 10 < xs.length) with h1 | ⟨h1, h2⟩ | h1
  · have hx := List.eq_nil_of_length_eq_zero h1
    subst hx
    clear h1
    go_enter Try.func36, Try.ntmps36
    go_wp2_with (go_at_call 52; refine (in_any _ _ _ _).mono ?_; rintro e w' ⟨rfl, rfl⟩)
    go_ret
    exact ⟨ret_bool (by rw [H.out]; rfl), 0, rfl⟩
  · go_enter Try.func36, Try.ntmps36
    go_wp2_with (first
        | (go_at_call 52; refine (in_any _ _ _ _).mono ?_; rintro e w' ⟨rfl, rfl⟩)
        | (go_at_call 53; refine (HC.out).mono ?_; rintro e w' ⟨rfl, n, rfl⟩))
    go_ret
    exact ⟨ret_bool (by rw [H.out]; simp [h1, h2]), n, rfl⟩
  · go_enter Try.func36, Try.ntmps36
    go_wp2_with (go_at_call 52; refine (in_any _ _ _ _).mono ?_; rintro e w' ⟨rfl, rfl⟩)
    go_ret
    exact ⟨ret_bool (by rw [H.out, decide_eq_false (by omega)]; rfl), 0, rfl⟩
end Go.Proofs.Ytmhneigglmingaa
