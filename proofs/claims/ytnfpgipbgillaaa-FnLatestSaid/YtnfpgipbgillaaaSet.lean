/- Walks: sets and majorities of replicas: isSet, isMajority, l13Set, l13Most. -/
import Derived.Test.YtnfpgipbgillaaaRegS
namespace Go.Proofs.Ytnfpgipbgillaaa
open Go.RowKit
set_option maxHeartbeats 400000
set_option linter.unusedVariables false
def inS (n : Nat) (x : Int) : Bool := decide (0 ≤ x) && decide (x ≤ (n : Int) - 1)
def setAt (n : Nat) (xs : List Int) (k : Nat) : Bool := match xs[k]? with
  | some x => inS n x && (match k with | 0 => true | j + 1 => match xs[j]? with | some y => decide (y < x) | none => true)
  | none => true
def setTo (n : Nat) (xs : List Int) (k : Nat) : Bool := (List.range k).all (setAt n xs)
def setOk (n : Nat) (xs : List Int) : Bool := setTo n xs xs.length
def mostOk (n : Nat) (xs : List Int) : Bool := setOk n xs && decide ((n : Int) < 2 * (xs.length : Int))
theorem setTo_succ (n : Nat) (xs : List Int) (k : Nat) : setTo n xs (k + 1) = (setTo n xs k && setAt n xs k) := by simp [setTo, List.range_succ]
theorem set_false (n : Nat) (xs : List Int) (k : Nat) (hk : k < xs.length) (h : setAt n xs k = false) : setOk n xs = false := by
  unfold setOk setTo; rw [List.all_eq_false]; exact ⟨k, by simpa using hk, by simpa using h⟩
theorem setAt_zero (n : Nat) (xs : List Int) (x : Int) (h : xs[0]? = some x) : setAt n xs 0 = inS n x := by unfold setAt; rw [h]; simp
theorem setAt_succ (n : Nat) (xs : List Int) (j : Nat) (x y : Int) (hy : xs[j]? = some y) (h : xs[j + 1]? = some x) : setAt n xs (j + 1) = (inS n x && decide (y < x)) := by unfold setAt; rw [h]; simp only [hy]
theorem set_impl (B : Nat) (A : Option Addr) (c n : Nat) (xs : List Int) (hl : xs.length ≤ maxLen) (hn : n ≤ maxLen) (w : World) (h : NumsAt .i64 w B A xs) :
    Calls Try.prog 45 #[.slice A xs.length c, .int .i64 n] w fun e w' => e = .returned (.bool (setOk n xs)) ∧ w = w' := by
  unfold maxLen at hl hn
  have HI := fun (x : Int) (W : World) => Lib.hid (inRange_any x 0 ((n : Int) - 1) W)
  have HE := fun (x : Int) => Lib.hid (show (decide (0 ≤ x) && decide (x ≤ (n : Int) - 1)) = inS n x from rfl)
  go_enter Try.func45, Try.ntmps45
  go_wp2
  go_loop [9] (fun i => ∃ k : Nat, k ≤ xs.length ∧ i = .int .i64 k ∧ setTo n xs k = true) (fun i => xs.length - (intOf i).toNat)
  case atStart => exact ⟨0, Nat.zero_le _, rfl, rfl⟩
  case round =>
    obtain ⟨k, hk, rfl, hall⟩ := hrel
    have Hall := Lib.hid hall
    clear hall
    by_cases hlt : k < xs.length
    · obtain ⟨ad, x, rfl, -, hx, hc⟩ := h k hlt
      have HS := Lib.hid (setTo_succ n xs k)
      have HF := Lib.hid (set_false n xs k hlt)
      rcases k with _ | j
      · have HA := Lib.hid (setAt_zero n xs x hx)
        rw [addr_zero] at hc
        clear h hx
        cases hp : inS n x
        · go_wp2_with (go_at_call 26; refine ((HI x _).out).mono ?_; rintro e w' ⟨rfl, rfl⟩; rw [(HE x).out, hp])
          go_ret
          exact ⟨ret_bool (HF.out (by rw [HA.out, hp])).symm, rfl⟩
        · go_wp2_with (go_at_call 26; refine ((HI x _).out).mono ?_; rintro e w' ⟨rfl, rfl⟩; rw [(HE x).out, hp])
          go_round
          case rel => exact ⟨1, by omega, by go_num, by rw [HS.out, Hall.out, HA.out, hp]; rfl⟩
          case measure => simp [intOf]; omega
      · obtain ⟨ad', y, he, -, hy, hc'⟩ := h j (by omega)
        injection he with he
        subst he
        have HA := Lib.hid (setAt_succ n xs j x y hy hx)
        rw [addr_succ] at hc
        clear h hx hy
        cases hp : inS n x
        · go_wp2_with (go_at_call 26; refine ((HI x _).out).mono ?_; rintro e w' ⟨rfl, rfl⟩; rw [(HE x).out, hp])
          go_ret
          exact ⟨ret_bool (HF.out (by rw [HA.out, hp]; simp)).symm, rfl⟩
        · by_cases hyx : y < x
          · have hyx' : decide (x ≤ y) = false := by simpa using hyx
            go_wp2_with (go_at_call 26; refine ((HI x _).out).mono ?_; rintro e w' ⟨rfl, rfl⟩; rw [(HE x).out, hp])
            go_round
            case rel => exact ⟨j + 2, by omega, by go_num, by rw [HS.out, Hall.out, HA.out, hp]; simp [hyx]⟩
            case measure => simp [intOf]; omega
          · have hyx' : x ≤ y := by omega
            go_wp2_with (go_at_call 26; refine ((HI x _).out).mono ?_; rintro e w' ⟨rfl, rfl⟩; rw [(HE x).out, hp])
            go_ret
            exact ⟨ret_bool (HF.out (by rw [HA.out, hp]; simp; omega)).symm, rfl⟩
    · clear h
      go_wp2
      go_ret
      refine ⟨ret_bool ?_, rfl⟩
      have : k = xs.length := by omega
      subst this
      rw [← Hall.out]; rfl
theorem in_left (n lo hi : Int) (w : World) : Calls Try.prog 24 #[.int .i64 n, .int .i64 lo, .int .i64 hi] w fun e w' => e = .returned (.bool (decide (lo ≤ n) && decide (n ≤ hi))) ∧ w' = w := (in_any n lo hi w).mono fun _ _ ⟨h, k⟩ => ⟨h, k.symm⟩
theorem in_set (n : Nat) (x : Int) (b : Bool) (h : inS n x = b) (w : World) : Calls Try.prog 24 #[.int .i64 x, .int .i64 0, .int .i64 ((n : Int) - 1)] w fun e w' => e = .returned (.bool b) ∧ w' = w := by
  subst h; exact in_left _ _ _ _
theorem set_spec (B : Nat) (A : Option Addr) (c n : Nat) (xs : List Int) (hl : xs.length ≤ maxLen) (hn : n ≤ maxLen) (w : World) (h : NumsAt .i64 w B A xs) :
    Calls Try.prog 41 #[.int .i64 n, .slice A xs.length c] w fun e w' => e = .returned (.bool (setOk n xs)) ∧ ∃ m, w' = w.drewN m := by
  unfold maxLen at hl hn
  have HI := fun (x : Int) (b : Bool) (e : inS n x = b) (W : World) => Lib.hid (in_set n x b e W)
  go_enter Try.func41, Try.ntmps41
  go_wp2
  go_loopw [5] (fun i wr => ∃ k : Nat, k ≤ xs.length ∧ i = .int .i64 k ∧ setTo n xs k = true ∧ ∃ m, wr = w.drewN m) (fun i _ => xs.length - (intOf i).toNat)
  case atStart => exact ⟨0, Nat.zero_le _, rfl, rfl, 0, rfl⟩
  case round =>
    obtain ⟨k, hk, rfl, hall, hw⟩ := hrel
    have Hall := Lib.hid hall
    have HW := Lib.hid hw
    replace h : NumsAt .i64 wr B A xs := by obtain ⟨n, rfl⟩ := hw; exact h.drewN n
    clear hall hw
    by_cases hlt : k < xs.length
    · obtain ⟨ad, x, rfl, -, hx, hc⟩ := h k hlt
      have HS := Lib.hid (setTo_succ n xs k)
      have HF := Lib.hid (set_false n xs k hlt)
      rcases k with _ | j
      · have HA := Lib.hid (setAt_zero n xs x hx)
        rw [addr_zero] at hc
        clear h hx
        cases hp : inS n x
        · go_wp2
          go_quiet ((go_at_call 24; exact Calls.quiet_of_same ((HI x _ hp _).out)))
          go_wp2
          go_ret
          exact ⟨ret_bool (HF.out (by rw [HA.out, hp])).symm, drewN_more HW.out⟩
        · go_wp2
          go_quiet ((go_at_call 24; exact Calls.quiet_of_same ((HI x _ hp _).out)))
          go_wp2
          go_roundw
          case rel => exact ⟨1, by omega, by go_num, by rw [HS.out, Hall.out, HA.out, hp]; rfl, drewN_more HW.out⟩
          case measure => simp [intOf]; omega
      · obtain ⟨ad', y, he, -, hy, hc'⟩ := h j (by omega)
        injection he with he
        subst he
        have HA := Lib.hid (setAt_succ n xs j x y hy hx)
        rw [addr_succ] at hc
        clear h hx hy
        cases hp : inS n x
        · go_wp2
          go_quiet ((go_at_call 24; exact Calls.quiet_of_same ((HI x _ hp _).out)))
          go_wp2
          go_ret
          exact ⟨ret_bool (HF.out (by rw [HA.out, hp]; simp)).symm, drewN_more HW.out⟩
        · by_cases hyx : y < x
          · have hyx' : decide (x ≤ y) = false := by simpa using hyx
            go_wp2
            go_quiet ((go_at_call 24; exact Calls.quiet_of_same ((HI x _ hp _).out)))
            go_wp2
            go_roundw
            case rel => exact ⟨j + 2, by omega, by go_num, by rw [HS.out, Hall.out, HA.out, hp]; simp [hyx], drewN_more HW.out⟩
            case measure => simp [intOf]; omega
          · have hyx' : x ≤ y := by omega
            go_wp2
            go_quiet ((go_at_call 24; exact Calls.quiet_of_same ((HI x _ hp _).out)))
            go_wp2
            go_ret
            exact ⟨ret_bool (HF.out (by rw [HA.out, hp]; simp; omega)).symm, drewN_more HW.out⟩
    · clear h
      go_wp2
      go_ret
      refine ⟨ret_bool ?_, HW.out⟩
      have : k = xs.length := by omega
      subst this
      rw [← Hall.out]; rfl
theorem most_impl (B : Nat) (A : Option Addr) (c n : Nat) (xs : List Int) (hl : xs.length ≤ 1048577) (hn : n ≤ maxLen) (w : World) (h : NumsAt .i64 w B A xs) :
    Calls Try.prog 43 #[.slice A xs.length c, .int .i64 n] w fun e w' => e = .returned (.bool (mostOk n xs)) ∧ w = w' := by
  have HC := Lib.hid (set_impl B A c n xs (by unfold maxLen; omega) hn w h)
  clear h
  have H := Lib.hid (show mostOk n xs = (setOk n xs && decide ((n : Int) < 2 * (xs.length : Int))) from rfl)
  cases hs : setOk n xs
  all_goals
    go_enter Try.func43, Try.ntmps43
    go_wp2_with (go_at_call 45; refine (HC.out).mono ?_; rintro e w' ⟨rfl, rfl⟩; rw [hs])
    go_ret
    exact ⟨ret_bool (by rw [H.out, hs]; rfl), rfl⟩
theorem most_spec (B : Nat) (A : Option Addr) (c n : Nat) (xs : List Int) (hl : xs.length ≤ 1048577) (hn : n ≤ maxLen) (w : World) (h : NumsAt .i64 w B A xs) :
    Calls Try.prog 31 #[.int .i64 n, .slice A xs.length c] w fun e w' => e = .returned (.bool (mostOk n xs)) ∧ ∃ m, w' = w.drewN m := by
  have HC := Lib.hid (set_spec B A c n xs (by unfold maxLen; omega) hn w h)
  clear h
  have H := Lib.hid (show mostOk n xs = (setOk n xs && decide ((n : Int) < 2 * (xs.length : Int))) from rfl)
  cases hs : setOk n xs
  all_goals
    go_enter Try.func31, Try.ntmps31
    go_wp2_with (go_at_call 41; refine (HC.out).mono ?_; rintro e w' ⟨rfl, m, rfl⟩; rw [hs])
    go_ret
    exact ⟨ret_bool (by rw [H.out, hs]; rfl), _, rfl⟩
end Go.Proofs.Ytnfpgipbgillaaa
