/- Walk: the laws' sameInts. -/
import Derived.Test.YtkepfmekghbkeaaNext
import Derived.Test.YtkepfmekghbkeaaInts
namespace Go.Proofs.Ytkepfmekghbkeaa
open Go.RowKit
set_option maxHeartbeats 400000
set_option linter.unusedVariables false
theorem same_any (B : Nat) (A A' : Option Addr) (c c' : Nat) (xs ys : List Int) (hlx : xs.length ≤ maxLen) (hly : ys.length ≤ maxLen) (w : World) (h : NumsAt .i64 w B A xs) (h' : NumsAt .i64 w B A' ys) :
    Calls Try.prog 13 #[.slice A xs.length c, .slice A' ys.length c'] w fun e w' => e = .returned (.bool (decide (xs = ys))) ∧ Below w.heap.size w w' := by
  unfold maxLen at hlx hly
  by_cases hl : xs.length = ys.length
  · have hl' : ((xs.length : Int) != (ys.length : Int)) = false := by simp; omega
    have HL := Lib.hid hl
    clear hl
    go_enter Try.func13, Try.ntmps13
    go_wp2
    go_loopw [5] (fun i wr => ∃ k : Nat, k ≤ xs.length ∧ i = .int .i64 k ∧ eqTo xs ys k ∧ ∃ n, wr = w.drewN n) (fun i _ => xs.length - (intOf i).toNat)
    case atStart => exact ⟨0, Nat.zero_le _, rfl, fun i hi => absurd hi (by omega), 0, rfl⟩
    case round =>
      obtain ⟨k, hk, rfl, hall, hw⟩ := hrel
      have Hall := Lib.hid hall
      have HW := Lib.hid hw
      replace h : NumsAt .i64 wr B A xs := by obtain ⟨n, rfl⟩ := hw; exact h.drewN n
      replace h' : NumsAt .i64 wr B A' ys := by obtain ⟨n, rfl⟩ := hw; exact h'.drewN n
      clear hall hw
      by_cases hlt : k < xs.length
      · have hlt' : k < ys.length := by have := HL.out; omega
        obtain ⟨ad, x, rfl, -, hx, hc⟩ := h k hlt
        obtain ⟨ad', y, rfl, -, hy, hc'⟩ := h' k hlt'
        have HX := Lib.hid hx
        have HY := Lib.hid hy
        clear h h' hx hy
        by_cases hxy : x = y
        · subst hxy
          go_wp2
          go_quiet (fail)
          go_wp2
          go_roundw
          case rel => exact ⟨k + 1, by omega, by go_num, eqTo_step Hall.out HX.out HY.out, drewN_more HW.out⟩
          case measure => simp [intOf]; omega
        · have hne : (x != y) = true := by simpa using hxy
          have HN := Lib.hid (show decide (xs = ys) = false from by
            rw [decide_eq_false_iff_not]; intro e; rw [e, HY.out] at HX; injection HX.out with e'; exact hxy e'.symm)
          go_wp2
          go_quiet (fail)
          go_wp2
          go_ret
          exact ⟨ret_bool HN.out.symm, below_draw (drewN_more HW.out)⟩
      · clear h h'
        have HE := Lib.hid (show decide (xs = ys) = true from by
          rw [decide_eq_true_iff]; refine eqTo_end HL.out ?_; have : k = xs.length := by omega
          rw [← this]; exact Hall.out)
        go_wp2
        go_ret
        exact ⟨ret_bool HE.out.symm, below_draw HW.out⟩
  · have hl' : ((xs.length : Int) != (ys.length : Int)) = true := by simp; omega
    have HN := Lib.hid (show decide (xs = ys) = false from by rw [decide_eq_false_iff_not]; intro e; rw [e] at hl; exact hl rfl)
    clear hl
    go_enter Try.func13, Try.ntmps13
    go_wp2
    go_ret
    exact ⟨ret_bool HN.out.symm, Below.refl _ _⟩
theorem same_self (B : Nat) (A A' : Option Addr) (c c' : Nat) (xs : List Int) (hl : xs.length ≤ maxLen) (w : World) (h : NumsAt .i64 w B A xs) (h' : NumsAt .i64 w B A' xs) :
    Calls Try.prog 13 #[.slice A xs.length c, .slice A' xs.length c'] w fun e w' => e = .returned (.bool true) ∧ Below w.heap.size w w' := (same_any B A A' c c' xs xs hl hl w h h').mono fun _ _ ⟨h, k⟩ => ⟨by rw [h, decide_eq_true rfl], k⟩
theorem nnext_left (B : Nat) (A : Option Addr) (c : Nat) (xs : List Int) (key : Int) (hl : xs.length ≤ maxLen) (w : World) (h : NumsAt .i64 w B A xs) :
    Calls Try.prog 20 #[.slice A xs.length c, .int .i64 key] w fun e w' => e = .returned (.int .i64 (nnext xs key)) ∧ w' = w := (nnext_impl B A c xs key hl w h).mono fun _ _ ⟨h, k⟩ => ⟨h, k.symm⟩
end Go.Proofs.Ytkepfmekghbkeaa
