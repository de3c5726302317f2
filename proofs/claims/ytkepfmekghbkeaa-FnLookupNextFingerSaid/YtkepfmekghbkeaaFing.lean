/- Walks: slices.Contains and slices.Index at []int, impl.isNode, l11Ok, FingersOf of the implementation and of the reference, l11Fingers. -/
import Derived.Test.YtkepfmekghbkeaaNext
import Derived.Test.YtkepfmekghbkeaaApp
import Derived.Test.YtkepfmekghbkeaaPlainR
namespace Go.Proofs.Ytkepfmekghbkeaa
open Go.RowKit
set_option maxHeartbeats 400000
set_option linter.unusedVariables false
theorem index_any (B : Nat) (A : Option Addr) (c : Nat) (xs : List Int) (n : Int) (hl : xs.length ≤ maxLen) (w : World) (h : NumsAt .i64 w B A xs) :
    Calls Try.prog 50 #[.slice A xs.length c, .int .i64 n] w fun e w' => (∃ r : Int, e = .returned (.int .i64 r) ∧ decide (0 ≤ r) = has xs n) ∧ w = w' := by
  unfold maxLen at hl
  go_enter Try.func50, Try.ntmps50
  go_wp2
  go_loop [8] (fun i => ∃ k : Nat, k ≤ xs.length ∧ i = .int .i64 k ∧ has (xs.take k) n = false) (fun i => xs.length - (intOf i).toNat)
  case atStart => exact ⟨0, Nat.zero_le _, rfl, rfl⟩
  case round =>
    obtain ⟨k, hk, rfl, hall⟩ := hrel
    have Hall := Lib.hid hall
    clear hall
    by_cases hlt : k < xs.length
    · obtain ⟨ad, x, rfl, -, hx, hc⟩ := h k hlt
      have HX := Lib.hid hx
      clear h hx
      by_cases hp : x = n
      · subst hp
        have HR := Lib.hid (has_hit xs x k HX.out)
        go_wp2
        go_ret
        exact ⟨⟨_, rfl, by rw [HR.out]; simp⟩, rfl⟩
      · have hp' : (n == x) = false := by rw [beq_eq_false_iff_ne]; exact fun e => hp e.symm
        have HM := Lib.hid (has_miss xs n k x Hall.out HX.out hp)
        go_wp2
        go_round
        case rel => exact ⟨k + 1, by omega, by go_num, HM.out⟩
        case measure => simp [intOf]; omega
    · have HR := Lib.hid (has_over xs n k Hall.out (by omega))
      clear h
      go_wp2
      go_ret
      exact ⟨⟨_, rfl, by rw [HR.out]; simp⟩, rfl⟩
theorem contains_any (B : Nat) (A : Option Addr) (c : Nat) (xs : List Int) (n : Int) (hl : xs.length ≤ maxLen) (w : World) (h : NumsAt .i64 w B A xs) :
    Calls Try.prog 36 #[.slice A xs.length c, .int .i64 n] w fun e w' => e = .returned (.bool (has xs n)) ∧ w = w' := by
  have HC := Lib.hid (index_any B A c xs n hl w h)
  clear h
  go_enter Try.func36, Try.ntmps36
  go_wp2_with fail
  refine HC.out.mono ?_; rintro e w' ⟨⟨r, rfl, hr⟩, rfl⟩
  have HR := Lib.hid hr
  clear hr
  go_wp2
  go_ret
  exact ⟨ret_bool HR.out, rfl⟩
theorem node_split {xs : List Int} {id : Int} : nodeOk xs id = (nval xs && has xs id) := rfl
theorem isNode_any (B : Nat) (A : Option Addr) (c : Nat) (xs : List Int) (id : Int) (hl : xs.length ≤ maxLen) (w : World) (h : NumsAt .i64 w B A xs) :
    Calls Try.prog 21 #[.slice A xs.length c, .int .i64 id] w fun e w' => e = .returned (.bool (nodeOk xs id)) ∧ w = w' := by
  have HV := Lib.hid (nval_impl B A c xs hl w h)
  have HC := Lib.hid (contains_any B A c xs id hl w h)
  have H := Lib.hid (node_split (xs := xs) (id := id))
  clear h
  cases hv : nval xs
  all_goals
    go_enter Try.func21, Try.ntmps21
    go_wp2_with (first
      | (go_at_call 35; refine (HV.out).mono ?_; rintro e w' ⟨rfl, rfl⟩; rw [hv])
      | (go_at_call 36; refine (HC.out).mono ?_; rintro e w' ⟨rfl, rfl⟩))
    go_ret
    exact ⟨ret_bool (by rw [H.out, hv]; simp), rfl⟩
theorem l11Ok_any (B : Nat) (A : Option Addr) (c : Nat) (xs : List Int) (id : Int) (hl : xs.length ≤ maxLen) (w : World) (h : NumsAt .i64 w B A xs) :
    Calls Try.prog 25 #[.slice A xs.length c, .int .i64 id] w fun e w' => e = .returned (.bool (nodeOk xs id)) ∧ ∃ n, w' = w.drewN n := by
  have HV := Lib.hid (nval_spec B A c xs hl w h)
  have HC := fun n => Lib.hid (shas_any B A c xs id hl (w.drewN n) (h.drewN n))
  have H := Lib.hid (node_split (xs := xs) (id := id))
  clear h
  cases hv : nval xs
  all_goals
    go_enter Try.func25, Try.ntmps25
    go_wp2_with (first
      | (go_at_call 39; refine (HV.out).mono ?_; rintro e w' ⟨rfl, n, rfl⟩; rw [hv])
      | (go_at_call 40; refine ((HC _).out).mono ?_; rintro e w' ⟨rfl, rfl⟩))
    go_ret
    exact ⟨ret_bool (by rw [H.out, hv]; simp), _, rfl⟩
/-- What a function hands back that makes a slice of integers. -/
def MadeI (w : World) (xs : List Int) (e : Ending) (w' : World) : Prop := ∃ (A : Option Addr) (c : Nat), e = .returned (.slice A xs.length c) ∧ OwnI w' w.heap.size A c xs ∧ Below w.heap.size w w'
theorem pow_step (id : Int) (k : Nat) (hk : k < 6) (h0 : 0 ≤ id) (h1 : id < 64) (xs : List Int) (h : nval xs = true) : nnext xs ((id + (2 : Int) ^ k) % 64) = fing xs id k := by
  rw [nnext_yes h (p2_mod id k)]; rfl
theorem fgs_yes {xs : List Int} {id : Int} (h : nodeOk xs id = true) : fgs xs id = fingTo xs id 6 := by unfold fgs; rw [if_pos h]
theorem fgs_le (xs : List Int) (id : Int) : (fgs xs id).length ≤ 64 := by
  unfold fgs; split
  · rw [fingTo_len]; omega
  · simp
theorem fgs_no {xs : List Int} {id : Int} (h : ¬ nodeOk xs id = true) : fgs xs id = [] := by unfold fgs; rw [if_neg h]
theorem fgs_off {xs : List Int} {id : Int} (h : nodeOk xs id = false) : fgs xs id = [] := by unfold fgs; rw [h]; rfl
theorem fgs_impl (B : Nat) (A : Option Addr) (c : Nat) (xs : List Int) (id : Int) (hl : xs.length ≤ maxLen) (w : World) (hB : B ≤ w.heap.size) (h : NumsAt .i64 w B A xs) :
    Calls Try.prog 18 #[.slice A xs.length c, .int .i64 id] w (MadeI w (fgs xs id)) := by
  have HN := Lib.hid (isNode_any B A c xs id hl w h)
  cases hn : nodeOk xs id
  · have H := Lib.hid (fgs_off hn)
    clear h
    go_enter Try.func18, Try.ntmps18
    go_wp2_with (go_at_call 21; refine (HN.out).mono ?_; rintro e w' ⟨rfl, rfl⟩; rw [hn])
    go_ret
    exact ⟨none, 0, by rw [H.out]; rfl, by rw [H.out]; exact OwnI.none_ _ _, Below.refl _ _⟩
  · obtain ⟨hv, hid⟩ := nodeOk_iff.1 hn
    have hp := pos_iff.1 (node_pos hv hid)
    obtain ⟨hp0, hp1⟩ := hp
    have H := Lib.hid (fgs_yes hn)
    have HV := Lib.hid hv
    clear hv hid
    obtain ⟨i0, hi, hz0, hz1, hz2⟩ := info_parts int_info
    have HI := Lib.hid hi
    have HZ0 := Lib.hid hz0
    have HZ1 := Lib.hid hz1
    have HZ2 := Lib.hid hz2
    clear hi hz0 hz1 hz2
    go_enter Try.func18, Try.ntmps18
    go_wp2_with (go_at_call 21; refine (HN.out).mono ?_; rintro e w' ⟨rfl, rfl⟩; rw [hn])
    go_loopw [5, 11] (fun s i wr => ∃ (k : Nat) (A' : Option Addr) (c' : Nat), k ≤ 6 ∧ i = .int .i64 k ∧ s = .slice A' k c' ∧ OwnI wr w.heap.size A' c' (fingTo xs id k) ∧ Below w.heap.size w wr) (fun _ i _ => 6 - (intOf i).toNat)
    case atStart => exact ⟨0, none, 0, Nat.zero_le _, rfl, rfl, OwnI.none_ _ _, Below.refl _ _⟩
    case round =>
      obtain ⟨k, A', c', hk, rfl, rfl, ho, hb⟩ := hrel
      by_cases hlt : k < 6
      · have hnum := h.below (hb.mono hB)
        have hsz := hb.size
        have HNN := fun (key : Int) => Lib.hid (nnext_impl B A c xs key hl wr hnum)
        have HP := Lib.hid (pow_step id k hlt hp0 hp1 xs HV.out)
        obtain ⟨k', hk'⟩ : ∃ k', k' = k + 1 := ⟨_, rfl⟩
        have HF := Lib.hid (show fingTo xs id k' = fingTo xs id k ++ [fing xs id k] from by rw [hk']; exact fingTo_succ xs id k)
        have HK := Lib.hid hk'
        clear hk'
        have HL := Lib.hid (fingTo_len xs id k)
        clear h hnum
        rcases (by omega : k = 0 ∨ k = 1 ∨ k = 2 ∨ k = 3 ∨ k = 4 ∨ k = 5) with rfl | rfl | rfl | rfl | rfl | rfl
        all_goals
          go_wp2_with fail
          refine ((HNN _).out).mono ?_; rintro e w' ⟨rfl, rfl⟩
          go_wp2_with (at_builtin
                       refine list_app rfl Try.underlying23 HI.out HZ0.out HZ1.out HZ2.out (.tmp 14) (.tmp 22) rfl (base := w.heap.size) (xs := fingTo xs id _) (ys := [_]) rfl HL.out.symm (OwnI.alloc ho _) rfl (SrcI.one _ _) ?_ ?_ ?_
                       · rw [HL.out]; simp
                       · simp; omega
                       intro E2 f2 w4 ho4 hg4 hat4
                       have hb4 : Below w.heap.size w w4 := Below.grown (hb.alloc hsz _) hg4 (by simp; omega) ho.row
                       clear hat4)
          go_roundw
          case rel => exact ⟨k', E2, f2, by rw [HK.out]; decide, by rw [HK.out]; go_num, by rw [HL.out, HK.out], by rw [HF.out, ← HP.out]; exact ho4, hb4⟩
          case measure => simp [intOf]
      · have : k = 6 := by omega
        subst this
        clear h
        go_wp2
        go_ret
        exact ⟨A', c', by rw [H.out]; rfl, by rw [H.out]; exact ho, hb⟩
theorem fing_def (xs : List Int) (id : Int) (k : Nat) : nxt xs ((id + (2 : Int) ^ k) % 64) = fing xs id k := rfl
theorem sfgs_any (B : Nat) (A : Option Addr) (c : Nat) (xs : List Int) (id : Int) (hl1 : 1 ≤ xs.length) (hl : xs.length ≤ maxLen) (h0 : 0 ≤ id) (h1 : id < 64) (w : World) (hB : B ≤ w.heap.size) (h : NumsAt .i64 w B A xs) :
    Calls Try.prog 42 #[.slice A xs.length c, .int .i64 id] w (MadeI w (fingTo xs id 6)) := by
  obtain ⟨i0, hi, hz0, hz1, hz2⟩ := info_parts int_info
  have HI := Lib.hid hi
  have HZ0 := Lib.hid hz0
  have HZ1 := Lib.hid hz1
  have HZ2 := Lib.hid hz2
  clear hi hz0 hz1 hz2
  go_enter Try.func42, Try.ntmps42
  go_wp2
  go_loopw [5, 6, 7] (fun s t i wr => ∃ (k : Nat) (A' : Option Addr) (c' : Nat), k ≤ 6 ∧ i = .int .i64 k ∧ t = .int .i64 ((2 : Int) ^ k) ∧ s = .slice A' k c' ∧ OwnI wr w.heap.size A' c' (fingTo xs id k) ∧ Below w.heap.size w wr) (fun _ _ i _ => 6 - (intOf i).toNat)
  case atStart => exact ⟨0, _, 0, Nat.zero_le _, rfl, rfl, rfl, OwnI.empty w (Nat.le_refl _), (Below.refl _ _).alloc (Nat.le_refl _) _⟩
  case round =>
    obtain ⟨k, A', c', hk, rfl, rfl, rfl, ho, hb⟩ := hrel
    by_cases hlt : k < 6
    · have hnum := h.below (hb.mono hB)
      have hsz := hb.size
      have HNN := fun (key : Int) => Lib.hid (snxt_any B A c xs key hl1 hl wr hnum)
      have HP := Lib.hid (fing_def xs id k)
      obtain ⟨k', hk'⟩ : ∃ k', k' = k + 1 := ⟨_, rfl⟩
      have HF := Lib.hid (show fingTo xs id k' = fingTo xs id k ++ [fing xs id k] from by rw [hk']; exact fingTo_succ xs id k)
      have HK := Lib.hid hk'
      clear hk'
      have HL := Lib.hid (fingTo_len xs id k)
      clear h hnum
      rcases (by omega : k = 0 ∨ k = 1 ∨ k = 2 ∨ k = 3 ∨ k = 4 ∨ k = 5) with rfl | rfl | rfl | rfl | rfl | rfl
      all_goals
        go_wp2_with fail
        refine ((HNN _).out).mono ?_; rintro e w' ⟨rfl, rfl⟩
        go_wp2_with (at_builtin
                     refine list_app rfl Try.underlying23 HI.out HZ0.out HZ1.out HZ2.out (.tmp 13) (.tmp 20) rfl (base := w.heap.size) (xs := fingTo xs id _) (ys := [_]) rfl HL.out.symm (OwnI.alloc ho _) rfl (SrcI.one _ _) ?_ ?_ ?_
                     · rw [HL.out]; simp
                     · simp; omega
                     intro E2 f2 w4 ho4 hg4 hat4
                     have hb4 : Below w.heap.size w w4 := Below.grown (hb.alloc hsz _) hg4 (by simp; omega) ho.row
                     clear hat4)
        go_roundw
        case rel => exact ⟨k', E2, f2, by rw [HK.out]; decide, by rw [HK.out]; go_num, by rw [HK.out]; go_num, by rw [HL.out, HK.out], by rw [HF.out, ← HP.out]; exact ho4, hb4⟩
        case measure => simp [intOf]
    · have : k = 6 := by omega
      subst this
      clear h
      go_wp2
      go_ret
      exact ⟨A', c', rfl, ho, hb⟩
end Go.Proofs.Ytkepfmekghbkeaa
