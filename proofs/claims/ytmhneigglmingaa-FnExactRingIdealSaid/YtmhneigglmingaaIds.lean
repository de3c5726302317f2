/- Walks: idsOf, l3Ids, RingIds of the implementation and of the reference. -/
import Derived.Test.YtmhneigglmingaaRv
import Derived.Test.YtmhneigglmingaaNodeK
namespace Go.Proofs.Ytmhneigglmingaa
open Go.RowKit
set_option maxHeartbeats 1000000
set_option linter.unusedVariables false
/-- What a function hands back that makes a slice of integers. -/
def MadeI (w : World) (xs : List Int) (e : Ending) (w' : World) : Prop := ∃ (A : Option Addr) (c : Nat), e = .returned (.slice A xs.length c) ∧ OwnI w' w.heap.size A c xs ∧ Below w.heap.size w w'
def ids (xs : List Nod) : List Int := xs.map (·.1)
theorem ids_len (xs : List Nod) : (ids xs).length = xs.length := by simp [ids]
theorem ids_take {xs : List Nod} {k : Nat} {x : Nod} (h : xs[k]? = some x) : ids (xs.take (k + 1)) = ids (xs.take k) ++ [x.1] := by rw [take_snoc h]; simp [ids]
def rids (xs : List Nod) : List Int := if rgVal xs = true then ids xs else []
theorem rg_len {xs : List Nod} (h : rgVal xs = true) : xs.length ≤ 10 := by unfold rgVal at h; simp at h; exact h.1
theorem rids_le (xs : List Nod) : (rids xs).length ≤ 64 := by
  unfold rids; split
  · rename_i h; rw [ids_len]; have := rg_len h; omega
  · simp
theorem rids_yes {xs : List Nod} (h : rgVal xs = true) : rids xs = ids xs := by unfold rids; rw [if_pos h]
theorem rids_no {xs : List Nod} (h : rgVal xs = false) : rids xs = [] := by unfold rids; rw [h]; rfl
theorem idsOf_any (B : Nat) (A : Option Addr) (c : Nat) (xs : List Nod) (hl : xs.length ≤ 10) (w : World) (hB : B ≤ w.heap.size) (h : NodAt w B A xs) :
    Calls Try.prog 40 #[.slice A xs.length c] w (MadeI w (ids xs)) := by
  obtain ⟨i0, hi, hz0, hz1, hz2⟩ := info_parts int_info
  have HI := Lib.hid hi
  have HZ0 := Lib.hid hz0
  have HZ1 := Lib.hid hz1
  have HZ2 := Lib.hid hz2
  clear hi hz0 hz1 hz2
  go_enter Try.func40, Try.ntmps40
  go_wp2
  go_loopw [3, 8] (fun s i wr => ∃ (k : Nat) (A' : Option Addr) (c' : Nat), k ≤ xs.length ∧ i = .int .i64 k ∧ s = .slice A' k c' ∧ OwnI wr w.heap.size A' c' (ids (xs.take k)) ∧ Below w.heap.size w wr) (fun _ i _ => xs.length - (intOf i).toNat)
  case atStart => exact ⟨0, none, 0, Nat.zero_le _, rfl, rfl, OwnI.none_ _ _, Below.refl _ _⟩
  case round =>
    obtain ⟨k, A', c', hk, rfl, rfl, ho, hb⟩ := hrel
    by_cases hlt : k < xs.length
    · obtain ⟨b, off, rfl⟩ := h.some_ (by omega)
      obtain ⟨x, hx⟩ : ∃ x, xs[k]? = some x := ⟨_, List.getElem?_eq_getElem hlt⟩
      obtain ⟨A1, c1', c1, c2, c3, -, -, -⟩ := (h.below (hb.mono hB)).at_ hx
      obtain ⟨x1, x2, x3⟩ := x
      simp only at c1 c2 c3
      have hsz := hb.size
      have HT := Lib.hid (ids_take hx)
      have HL := Lib.hid (show (ids (xs.take k)).length = k from by rw [ids_len]; simp; omega)
      clear h hx
      go_wp2_with (at_builtin
                   refine list_app rfl Try.underlying29 HI.out HZ0.out HZ1.out HZ2.out (.tmp 12) (.tmp 15) rfl (base := w.heap.size) (xs := ids (xs.take k)) (ys := [x1]) rfl HL.out.symm (OwnI.alloc (OwnI.alloc ho _) _) rfl (SrcI.one_of (hp_new1 wr _ _)) ?_ ?_ ?_
                   · rw [HL.out]; simp; omega
                   · simp; omega
                   intro E2 f2 w4 ho4 hg4 hat4
                   have hb4 : Below w.heap.size w w4 := Below.grown ((hb.alloc hsz _).alloc (by simp; omega) _) hg4 (by simp; omega) ho.row
                   clear hat4)
      go_roundw
      case rel => exact ⟨k + 1, E2, f2, by omega, by go_num, by simp [HL.out], by rw [HT.out]; exact ho4, hb4⟩
      case measure => simp [intOf]; omega
    · clear h
      have : k = xs.length := by omega
      subst this
      go_wp2
      go_ret
      exact ⟨A', c', by rw [ids_len]; rfl, by rw [List.take_length] at ho; exact ho, hb⟩
theorem sids_any (B : Nat) (A : Option Addr) (c : Nat) (xs : List Nod) (hl : xs.length ≤ 10) (w : World) (hB : B ≤ w.heap.size) (h : NodAt w B A xs) :
    Calls Try.prog 39 #[.slice A xs.length c] w (MadeI w (ids xs)) := by
  obtain ⟨i0, hi, hz0, hz1, hz2⟩ := info_parts int_info
  have HI := Lib.hid hi
  have HZ0 := Lib.hid hz0
  have HZ1 := Lib.hid hz1
  have HZ2 := Lib.hid hz2
  clear hi hz0 hz1 hz2
  go_enter Try.func39, Try.ntmps39
  go_wp2
  go_loopw [3, 4] (fun s i wr => ∃ (k : Nat) (A' : Option Addr) (c' : Nat), k ≤ xs.length ∧ i = .int .i64 k ∧ s = .slice A' k c' ∧ OwnI wr w.heap.size A' c' (ids (xs.take k)) ∧ Below w.heap.size w wr) (fun _ i _ => xs.length - (intOf i).toNat)
  case atStart => exact ⟨0, _, 0, Nat.zero_le _, rfl, rfl, OwnI.empty w (Nat.le_refl _), (Below.refl _ _).alloc (Nat.le_refl _) _⟩
  case round =>
    obtain ⟨k, A', c', hk, rfl, rfl, ho, hb⟩ := hrel
    by_cases hlt : k < xs.length
    · obtain ⟨b, off, rfl⟩ := h.some_ (by omega)
      obtain ⟨x, hx⟩ : ∃ x, xs[k]? = some x := ⟨_, List.getElem?_eq_getElem hlt⟩
      obtain ⟨A1, c1', c1, c2, c3, -, -, -⟩ := (h.below (hb.mono hB)).at_ hx
      obtain ⟨x1, x2, x3⟩ := x
      simp only at c1 c2 c3
      have hsz := hb.size
      have HT := Lib.hid (ids_take hx)
      have HL := Lib.hid (show (ids (xs.take k)).length = k from by rw [ids_len]; simp; omega)
      clear h hx
      go_wp2_with (at_builtin
                   refine list_app rfl Try.underlying29 HI.out HZ0.out HZ1.out HZ2.out (.tmp 12) (.tmp 18) rfl (base := w.heap.size) (xs := ids (xs.take k)) (ys := [x1]) rfl HL.out.symm (OwnI.alloc ho _) rfl (SrcI.one _ _) ?_ ?_ ?_
                   · rw [HL.out]; simp; omega
                   · simp; omega
                   intro E2 f2 w4 ho4 hg4 hat4
                   have hb4 : Below w.heap.size w w4 := Below.grown (hb.alloc hsz _) hg4 (by simp; omega) ho.row
                   clear hat4)
      go_roundw
      case rel => exact ⟨k + 1, E2, f2, by omega, by go_num, by simp [HL.out], by rw [HT.out]; exact ho4, hb4⟩
      case measure => simp [intOf]; omega
    · clear h
      have : k = xs.length := by omega
      subst this
      go_wp2
      go_ret
      exact ⟨A', c', by rw [ids_len]; rfl, by rw [List.take_length] at ho; exact ho, hb⟩
theorem rids_impl (B : Nat) (A : Option Addr) (c : Nat) (xs : List Nod) (hl : xs.length ≤ c) (hc : c ≤ maxLen) (w : World) (hB : B ≤ w.heap.size) (h : NodAt w B A xs) :
    Calls Try.prog 22 #[.slice A xs.length c] w (MadeI w (rids xs)) := by
  have HV := Lib.hid (rv_impl B A c xs hl hc w hB h)
  cases hv : rgVal xs
  · have H := Lib.hid (rids_no hv)
    clear h
    go_enter Try.func22, Try.ntmps22
    go_wp2_with (go_at_call 12; refine (HV.out).mono ?_; rw [hv]; rintro e w1 ⟨rfl, hb⟩)
    go_ret
    exact ⟨none, 0, by rw [H.out]; rfl, by rw [H.out]; exact OwnI.none_ _ _, hb⟩
  · have H := Lib.hid (rids_yes hv)
    have HN := fun (W : World) (hW : Below w.heap.size w W) => Lib.hid (idsOf_any B A c xs (rg_len hv) W (Nat.le_trans hB hW.size) (h.below (hW.mono hB)))
    clear h
    go_enter Try.func22, Try.ntmps22
    go_wp2_with (first
      | (go_at_call 12; refine (HV.out).mono ?_; rw [hv]; rintro e w1 ⟨rfl, hb⟩)
      | (go_at_call 40; refine ((HN _ hb).out).mono ?_; rintro e w2 ⟨A', c', rfl, ho, hb2⟩))
    go_ret
    exact ⟨A', c', by rw [H.out]; rfl, by rw [H.out]; exact ho.base hb.size, below_next hb hb2⟩
theorem rids_spec (B : Nat) (A : Option Addr) (c : Nat) (xs : List Nod) (hl : xs.length ≤ c) (hc : c ≤ maxLen) (w : World) (hB : B ≤ w.heap.size) (h : NodAt w B A xs) :
    Calls Try.prog 21 #[.slice A xs.length c] w (MadeI w (rids xs)) := by
  have HV := Lib.hid (rv_spec B A c xs hl hc w hB h)
  cases hv : rgVal xs
  · have H := Lib.hid (rids_no hv)
    clear h
    go_enter Try.func21, Try.ntmps21
    go_wp2_with (go_at_call 10; refine (HV.out).mono ?_; rw [hv]; rintro e w1 ⟨rfl, hb⟩)
    go_ret
    exact ⟨_, 0, by rw [H.out]; rfl, by rw [H.out]; exact (OwnI.empty w1 (Nat.le_refl _)).base hb.size, hb.alloc hb.size _⟩
  · have H := Lib.hid (rids_yes hv)
    have HN := fun (W : World) (hW : Below w.heap.size w W) => Lib.hid (sids_any B A c xs (rg_len hv) W (Nat.le_trans hB hW.size) (h.below (hW.mono hB)))
    clear h
    go_enter Try.func21, Try.ntmps21
    go_wp2_with (first
      | (go_at_call 10; refine (HV.out).mono ?_; rw [hv]; rintro e w1 ⟨rfl, hb⟩)
      | (go_at_call 39; refine ((HN _ hb).out).mono ?_; rintro e w2 ⟨A', c', rfl, ho, hb2⟩))
    go_ret
    exact ⟨A', c', by rw [H.out]; rfl, by rw [H.out]; exact ho.base hb.size, below_next hb hb2⟩
end Go.Proofs.Ytmhneigglmingaa
