/- Walks: the lease of a key (leaseAt, l12At), LeaseOf of the implementation and of the reference. -/
import Derived.Test.YtkjolmbcafonaaaDoorLeaI
namespace Go.Proofs.YtkjolmbcafonaaaDoor
open Go.RowKit
set_option maxHeartbeats 1000000
set_option linter.unusedVariables false
theorem leaseFn_any (x y z key : Int) (kb : Nat) (w : World) (h : w.cell? ⟨kb, 0, none⟩ = some (.int .i64 key)) :
    Calls Tryd.prog 34 #[.agg #[.int .i64 x, .int .i64 y, .int .i64 z], .pointer (some ⟨kb, 0, none⟩)] w fun e w' => e = .returned (.bool (decide (key ≤ x))) ∧ Below w.heap.size w w' := by
  have hlt := World.block_lt_of_cell? w _ h
  have hA : Below w.heap.size w (w.alloc (.cells #[.int .i64 x, .int .i64 y, .int .i64 z] 34 (0, 0))) := (Below.refl _ _).alloc (Nat.le_refl _) _
  have h2 := (hA.cell hlt).trans h
  go_enter Tryd.func34, Tryd.ntmps34
  go_wp2
  go_ret
  exact ⟨rfl, by first | exact hA | exact hA.drew⟩
theorem idxLease_any (B : Nat) (A : Option Addr) (c : Nat) (xs : List Tri) (hl : xs.length ≤ maxLen) (key : Int) (kb : Nat) (w : World) (hB : B ≤ w.heap.size) (h : TrisAt w B A xs) (hk : w.cell? ⟨kb, 0, none⟩ = some (.int .i64 key)) :
    Calls Tryd.prog 33 #[.slice A xs.length c, .func (.func 34) #[] #[.pointer (some ⟨kb, 0, none⟩)]] w fun e w' => (∃ r : Int, e = .returned (.int .i64 r) ∧ (r = (lat xs key : Int) ∨ (r = -1 ∧ lat xs key = 0))) ∧ Below w.heap.size w w' := by
  unfold maxLen at hl
  have hkb := World.block_lt_of_cell? w _ hk
  go_enter Tryd.func33, Tryd.ntmps33
  go_wp2
  go_loopw [8] (fun i wr => ∃ k : Nat, k ≤ xs.length ∧ i = .int .i64 k ∧ (∀ (j : Nat) (y : Tri), j < k → xs[j]? = some y → y.1 < key) ∧ Below w.heap.size w wr) (fun i _ => xs.length - (intOf i).toNat)
  case atStart => exact ⟨0, Nat.zero_le _, rfl, fun _ _ hj => absurd hj (Nat.not_lt_zero _), Below.refl _ _⟩
  case round =>
    obtain ⟨k, hk', rfl, hall, hb⟩ := hrel
    have Hall := Lib.hid hall
    have hkr := (hb.cell hkb).trans hk
    clear hall hk
    by_cases hlt : k < xs.length
    · obtain ⟨b, off, rfl⟩ := h.some_ (by omega)
      obtain ⟨x, hx⟩ : ∃ x, xs[k]? = some x := ⟨_, List.getElem?_eq_getElem hlt⟩
      obtain ⟨x1, x2, x3⟩ := x
      obtain ⟨c1, c2, c3⟩ := (h.below (hb.mono hB)).at_ hx
      simp only at c1 c2 c3
      have HX := Lib.hid hx
      clear h hx
      have HFN := Lib.hid (leaseFn_any x1 x2 x3 key kb wr hkr)
      by_cases hp : key ≤ x1
      · rw [decide_eq_true hp] at HFN
        go_wp2_with fail
        refine HFN.out.mono ?_; rintro e w2 ⟨rfl, hb2⟩
        go_wp2
        go_ret
        exact ⟨⟨_, rfl, .inl (by rw [lat_hit Hall.out HX.out hp])⟩, below_next (w1 := wr) hb hb2⟩
      · rw [decide_eq_false hp] at HFN
        go_wp2_with fail
        refine HFN.out.mono ?_; rintro e w2 ⟨rfl, hb2⟩
        go_wp2
        go_roundw
        case rel =>
          refine ⟨k + 1, by omega, by go_num, fun j y hj hy => ?_, below_next (w1 := wr) hb hb2⟩
          by_cases e : j = k
          · subst e; rw [HX.out] at hy; injection hy with hy; subst hy; show x1 < key; omega
          · exact Hall.out j y (by omega) hy
        case measure => simp [intOf]; omega
    · clear h
      go_wp2
      go_ret
      exact ⟨⟨_, rfl, .inr ⟨rfl, lat_over fun j y hy => Hall.out j y (by have := (List.getElem?_eq_some_iff.1 hy).1; omega) hy⟩⟩, hb⟩
theorem leaseAt_any (B : Nat) (A : Option Addr) (c : Nat) (xs : List Tri) (hl : xs.length ≤ maxLen) (key : Int) (w : World) (hB : B ≤ w.heap.size) (h : TrisAt w B A xs) :
    Calls Tryd.prog 26 #[.slice A xs.length c, .int .i64 key] w fun e w' => e = .returned (.int .i64 (lat xs key : Int)) ∧ Below w.heap.size w w' := by
  have hA : Below w.heap.size w (w.alloc (.cells #[.int .i64 key] 3 (0, 0))) := (Below.refl _ _).alloc (Nat.le_refl _) _
  have hk : (w.alloc (.cells #[.int .i64 key] 3 (0, 0))).cell? ⟨w.heap.size, 0, none⟩ = some (.int .i64 key) := by rw [cell_of_row _ _ _ _ _ _ (heap_alloc_new w _)]; rfl
  have HC := Lib.hid (idxLease_any B A c xs hl key w.heap.size (w.alloc (.cells #[.int .i64 key] 3 (0, 0))) (by simp; omega) (h.below (hA.mono hB)) hk)
  clear h hk
  generalize hn : lat xs key = n at HC
  clear hn hl
  go_enter Tryd.func26, Tryd.ntmps26
  go_wp2_with fail
  refine HC.out.mono ?_; rintro e w2 ⟨⟨r, rfl, hr⟩, hb⟩
  rcases hr with rfl | ⟨rfl, rfl⟩
  · have h0 : ¬ ((n : Int) < 0) := by omega
    go_wp2
    go_ret
    exact ⟨ret_int (by omega), below_next hA hb⟩
  · go_wp2
    go_ret
    exact ⟨rfl, below_next hA hb⟩
theorem sAt_any (B : Nat) (A : Option Addr) (c : Nat) (xs : List Tri) (hl : xs.length ≤ maxLen) (key : Int) (w : World) (h : TrisAt w B A xs) :
    Calls Tryd.prog 23 #[.slice A xs.length c, .int .i64 key] w fun e w' => e = .returned (.int .i64 (lat xs key : Int)) ∧ ∃ n, w' = w.drewN n := by
  unfold maxLen at hl
  go_enter Tryd.func23, Tryd.ntmps23
  go_wp2
  go_loopw [5] (fun i wr => ∃ k : Nat, k ≤ xs.length ∧ i = .int .i64 k ∧ (∀ (j : Nat) (y : Tri), j < k → xs[j]? = some y → y.1 < key) ∧ ∃ n, wr = w.drewN n) (fun i _ => xs.length - (intOf i).toNat)
  case atStart => exact ⟨0, Nat.zero_le _, rfl, fun _ _ hj => absurd hj (Nat.not_lt_zero _), 0, rfl⟩
  case round =>
    obtain ⟨k, hk, rfl, hall, hw⟩ := hrel
    have Hall := Lib.hid hall
    have HW := Lib.hid hw
    replace h : TrisAt wr B A xs := by obtain ⟨n, rfl⟩ := hw; exact h.drewN n
    clear hall hw
    by_cases hlt : k < xs.length
    · obtain ⟨b, off, rfl⟩ := h.some_ (by omega)
      obtain ⟨x, hx⟩ : ∃ x, xs[k]? = some x := ⟨_, List.getElem?_eq_getElem hlt⟩
      obtain ⟨x1, x2, x3⟩ := x
      obtain ⟨c1, c2, c3⟩ := h.at_ hx
      simp only at c1 c2 c3
      have HX := Lib.hid hx
      clear h hx
      by_cases hp : key ≤ x1
      · go_wp2
        go_ret
        exact ⟨ret_int (by rw [lat_hit Hall.out HX.out hp]), by first | exact HW.out | exact drewN_more (m := 1) HW.out⟩
      · go_wp2
        go_roundw
        case rel =>
          refine ⟨k + 1, by omega, by go_num, fun j y hj hy => ?_, by first | exact HW.out | exact drewN_more (m := 1) HW.out⟩
          by_cases e : j = k
          · subst e; rw [HX.out] at hy; injection hy with hy; subst hy; show x1 < key; omega
          · exact Hall.out j y (by omega) hy
        case measure => simp [intOf]; omega
    · clear h
      go_wp2
      go_ret
      exact ⟨ret_int (by rw [lat_over fun j y hy => Hall.out j y (by have := (List.getElem?_eq_some_iff.1 hy).1; omega) hy]; rfl), HW.out⟩
def loOk (xs : List Tri) (key : Int) : Bool := lval xs && pos key
def loVal (xs : List Tri) (key : Int) : Tri := if loOk xs key = true then lof xs key else (0, 0, 0)
def LoRet (w : World) (xs : List Tri) (key : Int) (e : Ending) (w' : World) : Prop :=
  e = .returned (.tuple #[.agg #[.int .i64 (loVal xs key).1, .int .i64 (loVal xs key).2.1, .int .i64 (loVal xs key).2.2], .bool (loOk xs key)]) ∧ Below w.heap.size w w'
theorem below_set3 {w w' : World} (h : Below w.heap.size w w') (a b c : Value) : Below w.heap.size w (((w'.setCell ⟨w.heap.size, 0, none⟩ a).setCell ⟨w.heap.size, 1, none⟩ b).setCell ⟨w.heap.size, 2, none⟩ c) :=
  ((h.setCell (p := ⟨w.heap.size, 0, none⟩) (Nat.le_refl _) _).setCell (p := ⟨w.heap.size, 1, none⟩) (Nat.le_refl _) _).setCell (p := ⟨w.heap.size, 2, none⟩) (Nat.le_refl _) _
theorem lo_impl (B : Nat) (A : Option Addr) (c : Nat) (xs : List Tri) (key : Int) (hl : xs.length ≤ c) (hc : c ≤ maxLen) (w : World) (hB : B ≤ w.heap.size) (h : TrisAt w B A xs) :
    Calls Tryd.prog 11 #[.slice A xs.length c, .int .i64 key] w (LoRet w xs key) := by
  have hbz : Below w.heap.size w (w.alloc (.cells #[.int .i64 0, .int .i64 0, .int .i64 0] 34 (0, 0))) := (Below.refl _ _).alloc (Nat.le_refl _) _
  have HA := Lib.hid (lv_impl B A c xs hl hc (w.alloc (.cells #[.int .i64 0, .int .i64 0, .int .i64 0] 34 (0, 0))) (by simp; omega) (h.below (hbz.mono hB)))
  have H0 := Lib.hid (alloc_top w (.cells #[.int .i64 0, .int .i64 0, .int .i64 0] 34 (0, 0)))
  cases hv : lval xs
  · have hr : loOk xs key = false := by unfold loOk; rw [hv]; rfl
    have H := Lib.hid (show loVal xs key = (0, 0, 0) from by unfold loVal; rw [hr]; rfl)
    clear h
    go_enter Tryd.func11, Tryd.ntmps11
    go_wp2_with fail
    refine (HA.out).mono ?_; rw [hv]; rintro e w1 ⟨rfl, hb⟩
    have ht := (hb.block w.heap.size (by simp)).trans H0.out
    have hB1 := below_next hbz hb
    obtain ⟨c1, c2, c3⟩ := cells3 ht
    have f1 := free3 ht 0
    have f2 := free3 ht 1
    have f3 := free3 ht 2
    have HG := Lib.hid (And.intro c1 (And.intro c2 c3))
    clear ht hb hbz HA H0
    go_wp2_with fail
    refine bodyPost_ret (v := .tuple #[.agg #[.int .i64 0, .int .i64 0, .int .i64 0], .bool false]) (by simp [results, Tryd.results11, go_sem, HG.out.1, HG.out.2.1, HG.out.2.2]) rfl ⟨by rw [H.out, hr], by first | exact below_set3 hB1 _ _ _ | exact below_set3 (hB1.trans (below_draw ⟨_, rfl⟩)) _ _ _⟩
  cases hk : pos key
  · have hr : loOk xs key = false := by unfold loOk; rw [hv, hk]; rfl
    have H := Lib.hid (show loVal xs key = (0, 0, 0) from by unfold loVal; rw [hr]; rfl)
    clear h
    go_enter Tryd.func11, Tryd.ntmps11
    go_wp2_with fail
    refine (HA.out).mono ?_; rw [hv]; rintro e w1 ⟨rfl, hb⟩
    have ht := (hb.block w.heap.size (by simp)).trans H0.out
    have hB1 := below_next hbz hb
    obtain ⟨c1, c2, c3⟩ := cells3 ht
    have f1 := free3 ht 0
    have f2 := free3 ht 1
    have f3 := free3 ht 2
    have HG := Lib.hid (And.intro c1 (And.intro c2 c3))
    clear ht hb hbz HA H0
    go_wp2_with (go_at_call 25; refine (ok_any key _).mono ?_; rw [hk]; rintro e w9 ⟨rfl, rfl⟩)
    refine bodyPost_ret (v := .tuple #[.agg #[.int .i64 0, .int .i64 0, .int .i64 0], .bool false]) (by simp [results, Tryd.results11, go_sem, HG.out.1, HG.out.2.1, HG.out.2.2]) rfl ⟨by rw [H.out, hr], by first | exact below_set3 hB1 _ _ _ | exact below_set3 (hB1.trans (below_draw ⟨_, rfl⟩)) _ _ _⟩
  · have hr : loOk xs key = true := by unfold loOk; rw [hv, hk]; rfl
    have H := Lib.hid (show loVal xs key = lof xs key from by unfold loVal; rw [if_pos hr])
    have hl1 := (lval_len hv).1
    have hl2 := (lval_len hv).2
    have hat := lof_at hl1 key
    have hlt := lat_lt hl1 key
    obtain ⟨b, off, rfl⟩ := h.some_ (by omega)
    have HC := fun (W : World) (hb : Below w.heap.size w W) => Lib.hid (leaseAt_any B _ c xs (Nat.le_trans hl hc) key W (Nat.le_trans hB hb.size) (h.below (hb.mono hB)))
    have HV := fun (W : World) (hb : Below w.heap.size w W) => Lib.hid ((h.below (hb.mono hB)).at_ hat)
    clear h hat
    generalize lat xs key = n at HC HV hlt
    generalize lof xs key = v at HV H
    go_enter Tryd.func11, Tryd.ntmps11
    go_wp2_with fail
    refine (HA.out).mono ?_; rw [hv]; rintro e w1 ⟨rfl, hb⟩
    have HT := Lib.hid ((hb.block w.heap.size (by simp)).trans H0.out)
    have hB1 := below_next hbz hb
    clear hb hbz HA H0
    go_wp2_with (first
                  | (go_at_call 25; refine (ok_any key _).mono ?_; rw [hk]; rintro e w9 ⟨rfl, rfl⟩)
                  | (go_at_call 26; refine ((HC w1 hB1).out).mono ?_; rintro e w2 ⟨rfl, hb2⟩;                     have hB2 := below_next hB1 hb2; have ht := (hb2.block w.heap.size (Array.getElem?_eq_some_iff.1 HT.out).1).trans HT.out; obtain ⟨c1, c2, c3⟩ := cells3 ht; have f1 := free3 ht 0; have f2 := free3 ht 1; have f3 := free3 ht 2; have HG := Lib.hid (And.intro c1 (And.intro c2 c3)); obtain ⟨q1, q2, q3⟩ := (HV w2 hB2).out; clear ht hb2))
    refine bodyPost_ret (v := .tuple #[.agg #[.int .i64 v.1, .int .i64 v.2.1, .int .i64 v.2.2], .bool true]) (by simp [results, Tryd.results11, go_sem, HG.out.1, HG.out.2.1, HG.out.2.2]) rfl ⟨by rw [H.out, hr], below_set3 hB2 _ _ _⟩
end Go.Proofs.YtkjolmbcafonaaaDoor
