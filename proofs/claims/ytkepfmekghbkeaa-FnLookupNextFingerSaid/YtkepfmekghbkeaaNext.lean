/- Walks: NodesNext and NodesBefore of the implementation and of the reference. -/
import Derived.Test.YtkepfmekghbkeaaNodes
namespace Go.Proofs.Ytkepfmekghbkeaa
open Go.RowKit
set_option maxHeartbeats 400000
set_option linter.unusedVariables false
theorem nnext_impl (B : Nat) (A : Option Addr) (c : Nat) (xs : List Int) (key : Int) (hl : xs.length ≤ maxLen) (w : World) (h : NumsAt .i64 w B A xs) :
    Calls Try.prog 20 #[.slice A xs.length c, .int .i64 key] w fun e w' => e = .returned (.int .i64 (nnext xs key)) ∧ w = w' := by
  have HV := Lib.hid (nval_impl B A c xs hl w h)
  unfold maxLen at hl
  by_cases hv : nval xs = true
  · have hlen := nval_len hv
    obtain ⟨hl1, hl2⟩ := hlen
    by_cases hk : pos key = true
    · have H := Lib.hid (show nnext xs key = nxt xs key from by unfold nnext; rw [if_pos ⟨hv, hk⟩])
      obtain ⟨ad, x0, rfl, -, hx0, hc0⟩ := h 0 (by omega)
      rw [addr_zero] at hc0
      go_enter Try.func20, Try.ntmps20
      go_wp2_with (first
        | (go_at_call 35; refine (HV.out).mono ?_; rintro e w' ⟨rfl, rfl⟩)
        | (go_at_call 22; refine (ok_any _ _).mono ?_; rintro e w' ⟨rfl, rfl⟩))
      clear hv
      go_loop [17] (fun i => ∃ k : Nat, k ≤ xs.length ∧ i = .int .i64 k ∧ (xs.take k).find? (fun n => decide (key ≤ n)) = none) (fun i => xs.length - (intOf i).toNat)
      case atStart => exact ⟨0, Nat.zero_le _, rfl, rfl⟩
      case round =>
        obtain ⟨k, hk, rfl, hall⟩ := hrel
        have Hall := Lib.hid hall
        clear hall
        by_cases hlt : k < xs.length
        · obtain ⟨ad', x, he, -, hx, hc⟩ := h k hlt
          injection he with he
          subst he
          have HX := Lib.hid hx
          clear h hx
          by_cases hp : key ≤ x
          · have HR := Lib.hid (nxt_hit xs key k x Hall.out HX.out hp)
            go_wp2
            go_ret
            exact ⟨ret_int (by rw [H.out, HR.out]), rfl⟩
          · have HM := Lib.hid (find_miss xs (fun n => decide (key ≤ n)) k x Hall.out HX.out (by simpa using hp))
            have hp' : x < key := by omega
            go_wp2
            go_round
            case rel => exact ⟨k + 1, by omega, by go_num, HM.out⟩
            case measure => simp [intOf]; omega
        · have HR := Lib.hid (nxt_over xs key k x0 Hall.out (by omega) hx0)
          clear h hx0
          go_wp2
          go_ret
          exact ⟨ret_int (by rw [H.out, HR.out]), rfl⟩
    · have hk : pos key = false := by simpa using hk
      have H := Lib.hid (show nnext xs key = -1 from by unfold nnext; rw [if_neg (by simp [hk])])
      go_enter Try.func20, Try.ntmps20
      go_wp2_with (first
        | (go_at_call 35; refine (HV.out).mono ?_; rintro e w' ⟨rfl, rfl⟩)
        | (go_at_call 22; refine (ok_any _ _).mono ?_; rintro e w' ⟨rfl, rfl⟩))
      go_ret
      exact ⟨ret_int H.out.symm, rfl⟩
  · have hv : nval xs = false := by simpa using hv
    have H := Lib.hid (show nnext xs key = -1 from by unfold nnext; rw [if_neg (by simp [hv])])
    go_enter Try.func20, Try.ntmps20
    go_wp2_with (go_at_call 35; refine (HV.out).mono ?_; rintro e w' ⟨rfl, rfl⟩)
    go_ret
    exact ⟨ret_int H.out.symm, rfl⟩
theorem snxt_any (B : Nat) (A : Option Addr) (c : Nat) (xs : List Int) (key : Int) (hl1 : 1 ≤ xs.length) (hl : xs.length ≤ maxLen) (w : World) (h : NumsAt .i64 w B A xs) :
    Calls Try.prog 27 #[.slice A xs.length c, .int .i64 key] w fun e w' => e = .returned (.int .i64 (nxt xs key)) ∧ w = w' := by
  unfold maxLen at hl
  obtain ⟨ad, x0, rfl, -, hx0, hc0⟩ := h 0 (by omega)
  rw [addr_zero] at hc0
  go_enter Try.func27, Try.ntmps27
  go_wp2
  go_loop [5] (fun i => ∃ k : Nat, k ≤ xs.length ∧ i = .int .i64 k ∧ (xs.take k).find? (fun n => decide (key ≤ n)) = none) (fun i => xs.length - (intOf i).toNat)
  case atStart => exact ⟨0, Nat.zero_le _, rfl, rfl⟩
  case round =>
    obtain ⟨k, hk, rfl, hall⟩ := hrel
    have Hall := Lib.hid hall
    clear hall
    by_cases hlt : k < xs.length
    · obtain ⟨ad', x, he, -, hx, hc⟩ := h k hlt
      injection he with he
      subst he
      have HX := Lib.hid hx
      clear h hx
      by_cases hp : key ≤ x
      · have HR := Lib.hid (nxt_hit xs key k x Hall.out HX.out hp)
        go_wp2
        go_ret
        exact ⟨ret_int (by rw [HR.out]), rfl⟩
      · have HM := Lib.hid (find_miss xs (fun n => decide (key ≤ n)) k x Hall.out HX.out (by simpa using hp))
        have hp' : x < key := by omega
        go_wp2
        go_round
        case rel => exact ⟨k + 1, by omega, by go_num, HM.out⟩
        case measure => simp [intOf]; omega
    · have HR := Lib.hid (nxt_over xs key k x0 Hall.out (by omega) hx0)
      clear h hx0
      go_wp2
      go_ret
      exact ⟨ret_int (by rw [HR.out]), rfl⟩
end Go.Proofs.Ytkepfmekghbkeaa
