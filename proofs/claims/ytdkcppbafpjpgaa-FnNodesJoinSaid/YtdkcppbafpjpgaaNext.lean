/- Walks: NodesNext and NodesBefore of the implementation and of the reference. -/
import Derived.Test.YtdkcppbafpjpgaaNodes
namespace Go.Proofs.Ytdkcppbafpjpgaa
open Go.RowKit
set_option maxHeartbeats 400000
set_option linter.unusedVariables false
theorem nnext_impl (B : Nat) (A : Option Addr) (c : Nat) (xs : List Int) (key : Int) (hl : xs.length ≤ maxLen) (w : World) (h : NumsAt .i64 w B A xs) :
    Calls Try.prog 22 #[.slice A xs.length c, .int .i64 key] w fun e w' => e = .returned (.int .i64 (nnext xs key)) ∧ w = w' := by
  have HV := Lib.hid (nval_impl B A c xs hl w h)
  unfold maxLen at hl
  by_cases hv : nval xs = true
  · have hlen := nval_len hv
    obtain ⟨hl1, hl2⟩ := hlen
    by_cases hk : pos key = true
    · have H := Lib.hid (show nnext xs key = nxt xs key from by unfold nnext; rw [if_pos ⟨hv, hk⟩])
      obtain ⟨ad, x0, rfl, -, hx0, hc0⟩ := h 0 (by omega)
      rw [addr_zero] at hc0
      go_enter Try.func22, Try.ntmps22
      go_wp2_with (first
        | (go_at_call 19; refine (HV.out).mono ?_; rintro e w' ⟨rfl, rfl⟩)
        | (go_at_call 41; refine (ok_any _ _).mono ?_; rintro e w' ⟨rfl, rfl⟩))
      clear hv
      go_loop [17] (fun i => ∃ k : Nat, k ≤ xs.length ∧ i = .int .i64 k ∧ (xs.take k).find? (fun n => decide (key ≤ n)) = none) (fun i => xs.length - (intOf i).toNat)
      case atStart => exact ⟨0, Nat.zero_le _, rfl, rfl⟩
      case round =>
        obtain ⟨k, hk, rfl, hall⟩ := hrel
        have Hall := Lib.hid hall
        clear hall
        by_cases hlt : k < xs.length
        · obtain ⟨ad', x, he, -, hx, hc⟩ := h k hlt
          injection he with he
          subst he
          have HX := Lib.hid hx
          clear h hx
          by_cases hp : key ≤ x
          · have HR := Lib.hid (nxt_hit xs key k x Hall.out HX.out hp)
            go_wp2
            go_ret
            exact ⟨ret_int (by rw [H.out, HR.out]), rfl⟩
          · have HM := Lib.hid (find_miss xs (fun n => decide (key ≤ n)) k x Hall.out HX.out (by simpa using hp))
            have hp' : x < key := by omega
            go_wp2
            go_round
            case rel => exact ⟨k + 1, by omega, by go_num, HM.out⟩
            case measure => simp [intOf]; omega
        · have HR := Lib.hid (nxt_over xs key k x0 Hall.out (by omega) hx0)
          clear h hx0
          go_wp2
          go_ret
          exact ⟨ret_int (by rw [H.out, HR.out]), rfl⟩
    · have hk : pos key = false := by simpa using hk
      have H := Lib.hid (show nnext xs key = -1 from by unfold nnext; rw [if_neg (by simp [hk])])
      go_enter Try.func22, Try.ntmps22
      go_wp2_with (first
        | (go_at_call 19; refine (HV.out).mono ?_; rintro e w' ⟨rfl, rfl⟩)
        | (go_at_call 41; refine (ok_any _ _).mono ?_; rintro e w' ⟨rfl, rfl⟩))
      go_ret
      exact ⟨ret_int H.out.symm, rfl⟩
  · have hv : nval xs = false := by simpa using hv
    have H := Lib.hid (show nnext xs key = -1 from by unfold nnext; rw [if_neg (by simp [hv])])
    go_enter Try.func22, Try.ntmps22
    go_wp2_with (go_at_call 19; refine (HV.out).mono ?_; rintro e w' ⟨rfl, rfl⟩)
    go_ret
    exact ⟨ret_int H.out.symm, rfl⟩
theorem nbefore_impl (B : Nat) (A : Option Addr) (c : Nat) (xs : List Int) (key : Int) (hl : xs.length ≤ maxLen) (w : World) (h : NumsAt .i64 w B A xs) :
    Calls Try.prog 26 #[.slice A xs.length c, .int .i64 key] w fun e w' => e = .returned (.int .i64 (nbefore xs key)) ∧ w = w' := by
  have HV := Lib.hid (nval_impl B A c xs hl w h)
  unfold maxLen at hl
  by_cases hv : nval xs = true
  · have hlen := nval_len hv
    obtain ⟨hl1, hl2⟩ := hlen
    by_cases hk : pos key = true
    · have H := Lib.hid (show nbefore xs key = prv xs key from by unfold nbefore; rw [if_pos ⟨hv, hk⟩])
      obtain ⟨ad, x1, rfl, -, hx1, hc1⟩ := h (xs.length - 1) (by omega)
      go_enter Try.func26, Try.ntmps26
      go_wp2_with (first
        | (go_at_call 19; refine (HV.out).mono ?_; rintro e w' ⟨rfl, rfl⟩)
        | (go_at_call 41; refine (ok_any _ _).mono ?_; rintro e w' ⟨rfl, rfl⟩))
      clear hv
      go_loop [5] (fun i => ∃ m : Nat, m ≤ xs.length ∧ i = .int .i64 (m - 1) ∧ (xs.drop m).reverse.find? (fun n => decide (n < key)) = none) (fun i => (intOf i + 1).toNat)
      case atStart => exact ⟨xs.length, Nat.le_refl _, rfl, by simp⟩
      case round =>
        obtain ⟨m, hm, rfl, hall⟩ := hrel
        have Hall := Lib.hid hall
        clear hall
        rcases m with _ | j
        · have HR := Lib.hid (prv_over xs key x1 Hall.out hx1)
          clear h hx1
          go_wp2
          go_ret
          exact ⟨ret_int (by rw [H.out, HR.out]), rfl⟩
        · obtain ⟨ad', x, he, -, hx, hc⟩ := h j (by omega)
          injection he with he
          subst he
          have HX := Lib.hid hx
          clear h hx
          by_cases hp : x < key
          · have HR := Lib.hid (prv_hit xs key j x Hall.out HX.out hp)
            go_wp2
            go_ret
            exact ⟨ret_int (by rw [H.out, HR.out]), rfl⟩
          · have HM := Lib.hid (rfind_miss xs (fun n => decide (n < key)) j x Hall.out HX.out (by simpa using hp))
            have hp' : key ≤ x := by omega
            go_wp2
            go_round
            case rel => exact ⟨j, by omega, by go_num, HM.out⟩
            case measure => simp [intOf]
    · have hk : pos key = false := by simpa using hk
      have H := Lib.hid (show nbefore xs key = -1 from by unfold nbefore; rw [if_neg (by simp [hk])])
      go_enter Try.func26, Try.ntmps26
      go_wp2_with (first
        | (go_at_call 19; refine (HV.out).mono ?_; rintro e w' ⟨rfl, rfl⟩)
        | (go_at_call 41; refine (ok_any _ _).mono ?_; rintro e w' ⟨rfl, rfl⟩))
      go_ret
      exact ⟨ret_int H.out.symm, rfl⟩
  · have hv : nval xs = false := by simpa using hv
    have H := Lib.hid (show nbefore xs key = -1 from by unfold nbefore; rw [if_neg (by simp [hv])])
    go_enter Try.func26, Try.ntmps26
    go_wp2_with (go_at_call 19; refine (HV.out).mono ?_; rintro e w' ⟨rfl, rfl⟩)
    go_ret
    exact ⟨ret_int H.out.symm, rfl⟩
theorem sprv_any (B : Nat) (A : Option Addr) (c : Nat) (xs : List Int) (key : Int) (hl1 : 1 ≤ xs.length) (hl : xs.length ≤ maxLen) (w : World) (h : NumsAt .i64 w B A xs) :
    Calls Try.prog 43 #[.slice A xs.length c, .int .i64 key] w fun e w' => e = .returned (.int .i64 (prv xs key)) ∧ w = w' := by
  unfold maxLen at hl
  obtain ⟨ad, x1, rfl, -, hx1, hc1⟩ := h (xs.length - 1) (by omega)
  have hv : True := trivial
  go_enter Try.func43, Try.ntmps43
  go_wp2
  clear hv
  go_loop [5] (fun i => ∃ m : Nat, m ≤ xs.length ∧ i = .int .i64 (m - 1) ∧ (xs.drop m).reverse.find? (fun n => decide (n < key)) = none) (fun i => (intOf i + 1).toNat)
  case atStart => exact ⟨xs.length, Nat.le_refl _, rfl, by simp⟩
  case round =>
    obtain ⟨m, hm, rfl, hall⟩ := hrel
    have Hall := Lib.hid hall
    clear hall
    rcases m with _ | j
    · have HR := Lib.hid (prv_over xs key x1 Hall.out hx1)
      clear h hx1
      go_wp2
      go_ret
      exact ⟨ret_int (by rw [HR.out]), rfl⟩
    · obtain ⟨ad', x, he, -, hx, hc⟩ := h j (by omega)
      injection he with he
      subst he
      have HX := Lib.hid hx
      clear h hx
      by_cases hp : x < key
      · have HR := Lib.hid (prv_hit xs key j x Hall.out HX.out hp)
        go_wp2
        go_ret
        exact ⟨ret_int (by rw [HR.out]), rfl⟩
      · have HM := Lib.hid (rfind_miss xs (fun n => decide (n < key)) j x Hall.out HX.out (by simpa using hp))
        have hp' : key ≤ x := by omega
        go_wp2
        go_round
        case rel => exact ⟨j, by omega, by go_num, HM.out⟩
        case measure => simp [intOf]
theorem snxt_any (B : Nat) (A : Option Addr) (c : Nat) (xs : List Int) (key : Int) (hl1 : 1 ≤ xs.length) (hl : xs.length ≤ maxLen) (w : World) (h : NumsAt .i64 w B A xs) :
    Calls Try.prog 42 #[.slice A xs.length c, .int .i64 key] w fun e w' => e = .returned (.int .i64 (nxt xs key)) ∧ w = w' := by
  unfold maxLen at hl
  obtain ⟨ad, x0, rfl, -, hx0, hc0⟩ := h 0 (by omega)
  rw [addr_zero] at hc0
  go_enter Try.func42, Try.ntmps42
  go_wp2
  go_loop [5] (fun i => ∃ k : Nat, k ≤ xs.length ∧ i = .int .i64 k ∧ (xs.take k).find? (fun n => decide (key ≤ n)) = none) (fun i => xs.length - (intOf i).toNat)
  case atStart => exact ⟨0, Nat.zero_le _, rfl, rfl⟩
  case round =>
    obtain ⟨k, hk, rfl, hall⟩ := hrel
    have Hall := Lib.hid hall
    clear hall
    by_cases hlt : k < xs.length
    · obtain ⟨ad', x, he, -, hx, hc⟩ := h k hlt
      injection he with he
      subst he
      have HX := Lib.hid hx
      clear h hx
      by_cases hp : key ≤ x
      · have HR := Lib.hid (nxt_hit xs key k x Hall.out HX.out hp)
        go_wp2
        go_ret
        exact ⟨ret_int (by rw [HR.out]), rfl⟩
      · have HM := Lib.hid (find_miss xs (fun n => decide (key ≤ n)) k x Hall.out HX.out (by simpa using hp))
        have hp' : x < key := by omega
        go_wp2
        go_round
        case rel => exact ⟨k + 1, by omega, by go_num, HM.out⟩
        case measure => simp [intOf]; omega
    · have HR := Lib.hid (nxt_over xs key k x0 Hall.out (by omega) hx0)
      clear h hx0
      go_wp2
      go_ret
      exact ⟨ret_int (by rw [HR.out]), rfl⟩
theorem nnext_spec (B : Nat) (A : Option Addr) (c : Nat) (xs : List Int) (key : Int) (hl : xs.length ≤ maxLen) (w : World) (h : NumsAt .i64 w B A xs) :
    Calls Try.prog 23 #[.slice A xs.length c, .int .i64 key] w fun e w' => e = .returned (.int .i64 (nnext xs key)) ∧ Below w.heap.size w w' := by
  have HV := Lib.hid (nval_spec B A c xs hl w h)
  by_cases hv : nval xs = true
  · have hlen := nval_len hv
    by_cases hk : pos key = true
    · have H := Lib.hid (show nnext xs key = nxt xs key from by unfold nnext; rw [if_pos ⟨hv, hk⟩])
      have HN := fun n => Lib.hid (snxt_any B A c xs key hlen.1 hl (w.drewN n) h)
      clear h hlen hl
      go_enter Try.func23, Try.ntmps23
      go_wp2_with (first
        | (go_at_call 20; refine (HV.out).mono ?_; rintro e w' ⟨rfl, n, rfl⟩)
        | (go_at_call 32; refine (point_any _ _).mono ?_; rintro e w' ⟨rfl, rfl⟩)
        | (go_at_call 42; refine ((HN _).out).mono ?_; rintro e w' ⟨rfl, rfl⟩))
      go_ret
      exact ⟨ret_int H.out.symm, below_draw ⟨_, rfl⟩⟩
    · have hk : pos key = false := by simpa using hk
      have H := Lib.hid (show nnext xs key = -1 from by unfold nnext; rw [if_neg (by simp [hk])])
      clear h hlen hl
      go_enter Try.func23, Try.ntmps23
      go_wp2_with (first
        | (go_at_call 20; refine (HV.out).mono ?_; rintro e w' ⟨rfl, n, rfl⟩)
        | (go_at_call 32; refine (point_any _ _).mono ?_; rintro e w' ⟨rfl, rfl⟩))
      go_ret
      exact ⟨ret_int H.out.symm, below_draw ⟨_, rfl⟩⟩
  · have hv : nval xs = false := by simpa using hv
    have H := Lib.hid (show nnext xs key = -1 from by unfold nnext; rw [if_neg (by simp [hv])])
    clear h hl
    go_enter Try.func23, Try.ntmps23
    go_wp2_with (go_at_call 20; refine (HV.out).mono ?_; rintro e w' ⟨rfl, n, rfl⟩)
    go_ret
    exact ⟨ret_int H.out.symm, below_draw ⟨_, rfl⟩⟩
theorem nbefore_spec (B : Nat) (A : Option Addr) (c : Nat) (xs : List Int) (key : Int) (hl : xs.length ≤ maxLen) (w : World) (h : NumsAt .i64 w B A xs) :
    Calls Try.prog 27 #[.slice A xs.length c, .int .i64 key] w fun e w' => e = .returned (.int .i64 (nbefore xs key)) ∧ Below w.heap.size w w' := by
  have HV := Lib.hid (nval_spec B A c xs hl w h)
  by_cases hv : nval xs = true
  · have hlen := nval_len hv
    by_cases hk : pos key = true
    · have H := Lib.hid (show nbefore xs key = prv xs key from by unfold nbefore; rw [if_pos ⟨hv, hk⟩])
      have HN := fun n => Lib.hid (sprv_any B A c xs key hlen.1 hl (w.drewN n) h)
      clear h hlen hl
      go_enter Try.func27, Try.ntmps27
      go_wp2_with (first
        | (go_at_call 20; refine (HV.out).mono ?_; rintro e w' ⟨rfl, n, rfl⟩)
        | (go_at_call 32; refine (point_any _ _).mono ?_; rintro e w' ⟨rfl, rfl⟩)
        | (go_at_call 43; refine ((HN _).out).mono ?_; rintro e w' ⟨rfl, rfl⟩))
      go_ret
      exact ⟨ret_int H.out.symm, below_draw ⟨_, rfl⟩⟩
    · have hk : pos key = false := by simpa using hk
      have H := Lib.hid (show nbefore xs key = -1 from by unfold nbefore; rw [if_neg (by simp [hk])])
      clear h hlen hl
      go_enter Try.func27, Try.ntmps27
      go_wp2_with (first
        | (go_at_call 20; refine (HV.out).mono ?_; rintro e w' ⟨rfl, n, rfl⟩)
        | (go_at_call 32; refine (point_any _ _).mono ?_; rintro e w' ⟨rfl, rfl⟩))
      go_ret
      exact ⟨ret_int H.out.symm, below_draw ⟨_, rfl⟩⟩
  · have hv : nval xs = false := by simpa using hv
    have H := Lib.hid (show nbefore xs key = -1 from by unfold nbefore; rw [if_neg (by simp [hv])])
    clear h hl
    go_enter Try.func27, Try.ntmps27
    go_wp2_with (go_at_call 20; refine (HV.out).mono ?_; rintro e w' ⟨rfl, n, rfl⟩)
    go_ret
    exact ⟨ret_int H.out.symm, below_draw ⟨_, rfl⟩⟩
end Go.Proofs.Ytdkcppbafpjpgaa
