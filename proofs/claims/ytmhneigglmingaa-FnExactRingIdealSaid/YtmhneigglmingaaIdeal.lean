/- Walks: RingIdeal of the implementation and of the reference. -/
import Derived.Test.YtmhneigglmingaaRnew
import Derived.Test.YtmhneigglmingaaSame2
namespace Go.Proofs.Ytmhneigglmingaa
open Go.RowKit
set_option maxHeartbeats 2000000
set_option linter.unusedVariables false
theorem ids_el (xs : List Nod) (j : Nat) : ((ids xs)[j]?).getD 0 = ((xs[j]?).getD (0, 0, [])).1 := by
  unfold ids
  rw [List.getElem?_map]
  cases xs[j]? <;> rfl
theorem rg_asc {xs : List Nod} (h : rgVal xs = true) : asc (ids xs) = true := by
  unfold asc ascTo
  rw [List.all_eq_true]
  intro i hi
  rw [List.mem_range, ids_len] at hi
  unfold rgVal okTo at h
  simp only [Bool.and_eq_true] at h
  have := List.all_eq_true.1 h.2 i (by simpa using hi)
  unfold okAt at this
  rw [List.getElem?_eq_getElem hi] at this
  simp only [Bool.and_eq_true] at this
  unfold ascAt
  rw [ids_el, ids_el, List.getElem?_eq_getElem hi]
  simp only [Option.getD_some, Bool.and_eq_true]
  exact ⟨this.1, this.2.1⟩
theorem rok_ids {xs : List Nod} (h : rgVal xs = true) : rok (ids xs) = decide (3 ≤ xs.length) := by
  have h10 := rg_len h
  unfold rok nval
  rw [rg_asc h, ids_len, Bool.and_true]
  rw [Bool.eq_iff_iff]; simp; omega
theorem NodAt.more {w : World} {B B' : Nat} {A : Option Addr} {xs : List Nod} (h : NodAt w B A xs) (hB : B ≤ B') : NodAt w B' A xs := by
  intro k x hx
  obtain ⟨b, off, A', c', e, hb, c1, c2, c3, h1, h2, h3⟩ := h k x hx
  exact ⟨b, off, A', c', e, by omega, c1, c2, c3, h1, h2, h3.more hB⟩
theorem rg_fits' {xs : List Nod} (h : rgVal xs = true) : fits xs := fun x hx => by
  obtain ⟨k, hk⟩ := List.getElem?_of_mem hx
  unfold rgVal okTo at h
  simp only [Bool.and_eq_true] at h
  have := List.all_eq_true.1 h.2 k (by simpa using (List.getElem?_eq_some_iff.1 hk).1)
  unfold okAt at this
  rw [hk] at this
  simp only [Bool.and_eq_true, decide_eq_true_eq] at this
  have := this.2.2.2.1
  omega
theorem fits_ideal (zs : List Int) : fits (ideal zs) := by
  intro x hx
  unfold ideal idTo at hx
  obtain ⟨k, _, rfl⟩ := List.mem_map.1 hx
  simp [idn]
/-- The ring is the ideal ring of its positions. -/
def rid (xs : List Nod) : Bool := rgVal xs && (decide (3 ≤ xs.length) && decide (xs = ideal (ids xs)))
theorem rid_no {xs : List Nod} (h : rgVal xs = false) : rid xs = false := by unfold rid; rw [h]; rfl
theorem rid_few {xs : List Nod} (h : ¬ 3 ≤ xs.length) : rid xs = false := by unfold rid; rw [decide_eq_false h]; simp
theorem rid_yes {xs : List Nod} (hv : rgVal xs = true) (h : 3 ≤ xs.length) : rid xs = decide (xs = ideal (ids xs)) := by unfold rid; rw [hv, decide_eq_true h]; rfl
theorem rid_impl (B : Nat) (A : Option Addr) (c : Nat) (xs : List Nod) (hl : xs.length ≤ c) (hc : c ≤ maxLen) (w : World) (hB : B ≤ w.heap.size) (h : NodAt w B A xs) :
    Calls Try.prog 27 #[.slice A xs.length c] w fun e w' => e = .returned (.bool (rid xs)) ∧ Below w.heap.size w w' := by
  have HV := Lib.hid (rv_impl B A c xs hl hc w hB h)
  cases hv : rgVal xs
  · have H := Lib.hid (rid_no hv)
    clear h
    go_enter Try.func27, Try.ntmps27
    go_wp2_with (go_at_call 12; refine (HV.out).mono ?_; rw [hv]; rintro e w1 ⟨rfl, hb⟩)
    go_ret
    exact ⟨ret_bool H.out.symm, hb⟩
  have h10 := rg_len hv
  have HI := fun (W : World) (hW : Below w.heap.size w W) => Lib.hid (idsOf_any B A c xs h10 W (Nat.le_trans hB hW.size) (h.below (hW.mono hB)))
  have hil := ids_len xs
  have HR := fun (W : World) (A1 : Option Addr) (c1 : Nat) (h1 : NumsAt .i64 W W.heap.size A1 (ids xs)) => Lib.hid (rn_impl W.heap.size A1 c1 (ids xs) (by unfold maxLen; omega) W (Nat.le_refl _) h1)
  unfold RnRet at HR
  have hrk := rok_ids hv
  by_cases h3 : 3 ≤ xs.length
  · rw [decide_eq_true h3] at hrk
    have hrw := rnw_yes hrk
    rw [hrk, hrw] at HR
    have hfx := rg_fits' hv
    have HS := fun (W : World) (A1 : Option Addr) (c1 : Nat) (hA : NodAt W W.heap.size A xs) (h1 : NodAt W W.heap.size A1 (ideal (ids xs))) => Lib.hid (sameRing_any W.heap.size A A1 c c1 xs (ideal (ids xs)) (by omega) (by rw [ideal_len]; omega) hfx (fits_ideal _) W (Nat.le_refl _) hA h1)
    have H := Lib.hid (rid_yes hv h3)
    have HH := fun (W : World) (hW : Below w.heap.size w W) => Lib.hid ((h.below (hW.mono hB)).more (Nat.le_trans hB hW.size))
    clear h hfx hrk hrw hil
    go_enter Try.func27, Try.ntmps27
    go_wp2_with fail
    refine (HV.out).mono ?_; rw [hv]; rintro e w1 ⟨rfl, hb1⟩
    go_wp2_with fail
    refine ((HI w1 hb1).out).mono ?_; rintro e w2 ⟨A2, c2, rfl, ho2, hb2⟩
    have hB2 := below_next hb1 hb2
    go_wp2_with fail
    refine ((HR w2 A2 c2 ho2.nums).out).mono ?_; rintro e w3 ⟨⟨A3, c3, rfl, ho3⟩, hb3⟩
    have hB3 := below_next hB2 hb3
    go_wp2_with fail
    refine ((HS w3 A3 c3 (HH w3 hB3).out ho3.nod).out).mono ?_; rintro e w4 ⟨rfl, hb4⟩
    go_wp2
    go_ret
    exact ⟨ret_bool H.out.symm, below_next hB3 hb4⟩
  · rw [decide_eq_false h3] at hrk
    have hrw := rnw_no hrk
    rw [hrk, hrw] at HR
    have H := Lib.hid (rid_few h3)
    clear h hrk hrw hil
    go_enter Try.func27, Try.ntmps27
    go_wp2_with fail
    refine (HV.out).mono ?_; rw [hv]; rintro e w1 ⟨rfl, hb1⟩
    go_wp2_with fail
    refine ((HI w1 hb1).out).mono ?_; rintro e w2 ⟨A2, c2, rfl, ho2, hb2⟩
    have hB2 := below_next hb1 hb2
    go_wp2_with fail
    refine ((HR w2 A2 c2 ho2.nums).out).mono ?_; rintro e w3 ⟨⟨A3, c3, rfl, ho3⟩, hb3⟩
    have hB3 := below_next hB2 hb3
    go_wp2
    go_ret
    exact ⟨ret_bool H.out.symm, hB3⟩
theorem rid_spec (B : Nat) (A : Option Addr) (c : Nat) (xs : List Nod) (hl : xs.length ≤ c) (hc : c ≤ maxLen) (w : World) (hB : B ≤ w.heap.size) (h : NodAt w B A xs) :
    Calls Try.prog 26 #[.slice A xs.length c] w fun e w' => e = .returned (.bool (rid xs)) ∧ Below w.heap.size w w' := by
  have HV := Lib.hid (rv_spec B A c xs hl hc w hB h)
  cases hv : rgVal xs
  · have H := Lib.hid (rid_no hv)
    clear h
    go_enter Try.func26, Try.ntmps26
    go_wp2_with (go_at_call 10; refine (HV.out).mono ?_; rw [hv]; rintro e w1 ⟨rfl, hb⟩)
    go_ret
    exact ⟨ret_bool H.out.symm, hb⟩
  have h10 := rg_len hv
  by_cases h3 : 3 ≤ xs.length
  · have HI := fun (W : World) (hW : Below w.heap.size w W) => Lib.hid (sids_any B A c xs h10 W (Nat.le_trans hB hW.size) (h.below (hW.mono hB)))
    have hil := ids_len xs
    have HR := fun (W : World) (A1 : Option Addr) (c1 : Nat) (h1 : NumsAt .i64 W W.heap.size A1 (ids xs)) => Lib.hid (ideal_spec W.heap.size A1 c1 (ids xs) (by omega) (by omega) W (Nat.le_refl _) h1)
    have hfx := rg_fits' hv
    have HS := fun (W : World) (A1 : Option Addr) (c1 : Nat) (hA : NodAt W W.heap.size A xs) (h1 : NodAt W W.heap.size A1 (ideal (ids xs))) => Lib.hid (same_any W.heap.size A A1 c c1 xs (ideal (ids xs)) (by omega) (by rw [ideal_len]; omega) hfx (fits_ideal _) W (Nat.le_refl _) hA h1)
    rw [ideal_len] at HS
    have H := Lib.hid (rid_yes hv h3)
    have HH := fun (W : World) (hW : Below w.heap.size w W) => Lib.hid ((h.below (hW.mono hB)).more (Nat.le_trans hB hW.size))
    have h3' : (3 : Int) ≤ (xs.length : Int) := by omega
    clear h hfx hil
    go_enter Try.func26, Try.ntmps26
    go_wp2_with fail
    refine (HV.out).mono ?_; rw [hv]; rintro e w1 ⟨rfl, hb1⟩
    go_wp2_with fail
    refine ((HI w1 hb1).out).mono ?_; rintro e w2 ⟨A2, c2, rfl, ho2, hb2⟩
    have hB2 := below_next hb1 hb2
    go_wp2_with fail
    refine ((HR w2 A2 c2 ho2.nums).out).mono ?_; rintro e w3 ⟨⟨A3, c3, rfl, ho3⟩, hb3⟩
    have hB3 := below_next hB2 hb3
    go_wp2_with fail
    refine ((HS w3 A3 c3 (HH w3 hB3).out ho3.nod).out).mono ?_; rintro e w4 ⟨rfl, hb4⟩
    go_wp2
    go_ret
    exact ⟨ret_bool H.out.symm, below_next hB3 hb4⟩
  · have H := Lib.hid (rid_few h3)
    have h3' : (xs.length : Int) < 3 := by omega
    clear h
    go_enter Try.func26, Try.ntmps26
    go_wp2_with (go_at_call 10; refine (HV.out).mono ?_; rw [hv]; rintro e w1 ⟨rfl, hb⟩)
    go_ret
    exact ⟨ret_bool H.out.symm, hb⟩
end Go.Proofs.Ytmhneigglmingaa
