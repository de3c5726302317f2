/- Walks: impl.times (slices.ContainsFunc, slices.IndexFunc with a closure), l12Time. -/
import Derived.Test.YtkjolmbcafonaaaDoorPosn
import Derived.Test.YtkjolmbcafonaaaDoorPlainT
namespace Go.Proofs.YtkjolmbcafonaaaDoor
open Go.RowKit
set_option maxHeartbeats 400000
set_option linter.unusedVariables false
theorem timeFn_any (n : Int) (w : World) : Calls Tryd.prog 36 #[.int .i64 n] w fun e w' => e = .returned (.bool (!timeOk n)) ∧ w = w' := by
  have H := Lib.hid (show (decide (0 ≤ n) && decide (n ≤ 999)) = timeOk n from rfl)
  go_enter Tryd.func36, Tryd.ntmps36
  go_wp2_with (go_at_call 27; refine (inRange_any n 0 999 _).mono ?_; rw [H.out]; rintro e w' ⟨rfl, rfl⟩)
  go_ret
  exact ⟨rfl, rfl⟩
theorem idxTime_any (B : Nat) (A : Option Addr) (c : Nat) (xs : List Int) (hl : xs.length ≤ maxLen) (w : World) (h : NumsAt .i64 w B A xs) :
    Calls Tryd.prog 39 #[.slice A xs.length c, .func (.func 36) #[] #[]] w fun e w' => (∃ r : Int, e = .returned (.int .i64 r) ∧ decide (0 ≤ r) = !(xs.all timeOk)) ∧ w = w' := by
  unfold maxLen at hl
  go_enter Tryd.func39, Tryd.ntmps39
  go_wp2
  go_loop [8] (fun i => ∃ k : Nat, k ≤ xs.length ∧ i = .int .i64 k ∧ (xs.take k).all timeOk = true) (fun i => xs.length - (intOf i).toNat)
  case atStart => exact ⟨0, Nat.zero_le _, rfl, rfl⟩
  case round =>
    obtain ⟨k, hk, rfl, hall⟩ := hrel
    have Hall := Lib.hid hall
    clear hall
    by_cases hlt : k < xs.length
    · obtain ⟨ad, x, rfl, -, hx, hc⟩ := h k hlt
      have HS := Lib.hid (all_step xs timeOk k x hx)
      have HX := Lib.hid hx
      clear h hx
      cases hp : timeOk x
      · have HF := Lib.hid (all_false xs timeOk k x HX.out hp)
        go_wp2_with (go_at_call 36; refine (timeFn_any _ _).mono ?_; rw [hp]; rintro e w' ⟨rfl, rfl⟩)
        go_ret
        exact ⟨⟨_, rfl, by rw [HF.out]; simp⟩, rfl⟩
      · go_wp2_with (go_at_call 36; refine (timeFn_any _ _).mono ?_; rw [hp]; rintro e w' ⟨rfl, rfl⟩)
        go_round
        case rel => exact ⟨k + 1, by omega, by go_num, by rw [HS.out, Hall.out, hp]; rfl⟩
        case measure => simp [intOf]; omega
    · clear h
      go_wp2
      go_ret
      refine ⟨⟨_, rfl, ?_⟩, rfl⟩
      have : k = xs.length := by omega
      subst this
      have := Hall.out
      rw [List.take_length] at this
      rw [this]; simp
theorem times_any (B : Nat) (A : Option Addr) (c : Nat) (xs : List Int) (hl : xs.length ≤ maxLen) (w : World) (h : NumsAt .i64 w B A xs) :
    Calls Tryd.prog 29 #[.slice A xs.length c] w fun e w' => e = .returned (.bool (xs.all timeOk)) ∧ w = w' := by
  have HC := Lib.hid (idxTime_any B A c xs hl w h)
  have HD : Hid (Calls Tryd.prog 35 #[.slice A xs.length c, .func (.func 36) #[] #[]] w fun e w' => e = .returned (.bool (!(xs.all timeOk))) ∧ w = w') := Lib.hid (by
    go_enter Tryd.func35, Tryd.ntmps35
    go_wp2_with fail
    refine HC.out.mono ?_; rintro e w' ⟨⟨r, rfl, hr⟩, rfl⟩
    have HR := Lib.hid hr
    clear hr
    go_wp2
    go_ret
    exact ⟨ret_bool HR.out, rfl⟩)
  clear h HC
  cases ha : xs.all timeOk
  all_goals
    go_enter Tryd.func29, Tryd.ntmps29
    go_wp2_with fail
    refine HD.out.mono ?_; rw [ha]; rintro e w' ⟨rfl, rfl⟩
    go_wp2
    go_ret
    exact ⟨rfl, rfl⟩
theorem times1 (a : Int) (w : World) : Calls Tryd.prog 29 #[.slice (some ⟨w.heap.size, 0, none⟩) 1 1] (w.alloc (.cells #[.int .i64 a] 3)) fun e w' => e = .returned (.bool (timeOk a)) ∧ w.alloc (.cells #[.int .i64 a] 3) = w' :=
  (times_any (w.heap.size + 1) _ 1 [a] (by simp [maxLen]) _ (NumsAt.lit w [a])).mono fun _ _ ⟨h, k⟩ => ⟨by rw [h]; simp, k⟩
theorem times2 (a b : Int) (w : World) : Calls Tryd.prog 29 #[.slice (some ⟨w.heap.size, 0, none⟩) 2 2] (w.alloc (.cells #[.int .i64 a, .int .i64 b] 3)) fun e w' => e = .returned (.bool (timeOk a && timeOk b)) ∧ w.alloc (.cells #[.int .i64 a, .int .i64 b] 3) = w' :=
  (times_any (w.heap.size + 1) _ 2 [a, b] (by simp [maxLen]) _ (NumsAt.lit w [a, b])).mono fun _ _ ⟨h, k⟩ => ⟨by rw [h]; simp, k⟩
theorem stime_any (n : Int) (w : World) : Calls Tryd.prog 22 #[.int .i64 n] w fun e w' => e = .returned (.bool (timeOk n)) ∧ w = w' := by
  have H := Lib.hid (show (decide (0 ≤ n) && decide (n ≤ 999)) = timeOk n from rfl)
  go_enter Tryd.func22, Tryd.ntmps22
  go_wp2_with (go_at_call 32; refine (in_any n 0 999 _).mono ?_; rw [H.out]; rintro e w' ⟨rfl, rfl⟩)
  go_ret
  exact ⟨rfl, rfl⟩
end Go.Proofs.YtkjolmbcafonaaaDoor
