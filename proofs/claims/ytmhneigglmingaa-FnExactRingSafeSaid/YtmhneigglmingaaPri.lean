/- Walks: RingPrincipals of the implementation and of the reference. -/
import Derived.Test.YtmhneigglmingaaSkip
import Derived.Deep.RegionHeld3
namespace Go.Proofs.Ytmhneigglmingaa
open Go.RowKit
set_option maxHeartbeats 2000000
set_option linter.unusedVariables false
/-- Some node skips the position. -/
def skd (xs : List Nod) (x : Int) : Bool := xs.any fun n => skp n.1 x n.2.2
/-- The positions that no node skips. -/
def prTo (xs ys : List Nod) : List Int := (ys.filter fun p => !skd xs p.1).map (·.1)
def pr (xs : List Nod) : List Int := prTo xs xs
theorem prTo_yes {xs : List Nod} {k : Nat} {x : Nod} (h : xs[k]? = some x) (hs : skd xs x.1 = true) : prTo xs (xs.take (k + 1)) = prTo xs (xs.take k) := by
  rw [take_snoc h]; simp [prTo, List.filter_append, hs]
theorem prTo_no {xs : List Nod} {k : Nat} {x : Nod} (h : xs[k]? = some x) (hs : skd xs x.1 = false) : prTo xs (xs.take (k + 1)) = prTo xs (xs.take k) ++ [x.1] := by
  rw [take_snoc h]; simp [prTo, List.filter_append, hs]
theorem prTo_le (xs ys : List Nod) : (prTo xs ys).length ≤ ys.length := by unfold prTo; rw [List.length_map]; exact List.length_filter_le _ _
theorem prTo_all (xs : List Nod) : prTo xs (xs.take xs.length) = pr xs := by rw [List.take_length]; rfl
def rpr (xs : List Nod) : List Int := if rgVal xs = true then pr xs else []
theorem rpr_yes {xs : List Nod} (h : rgVal xs = true) : rpr xs = pr xs := by unfold rpr; rw [if_pos h]
theorem rpr_no {xs : List Nod} (h : rgVal xs = false) : rpr xs = [] := by unfold rpr; rw [h]; rfl
theorem rpr_le (xs : List Nod) : (rpr xs).length ≤ 64 := by
  unfold rpr; split
  · rename_i h; have := rg_len h; have := prTo_le xs xs; unfold pr; omega
  · simp
theorem rg_node {xs : List Nod} (h : rgVal xs = true) {k : Nat} {x : Nod} (hx : xs[k]? = some x) : pos x.1 = true ∧ x.2.2.length = 2 ∧ x.2.2.all pos = true := by
  unfold rgVal okTo at h
  simp only [Bool.and_eq_true] at h
  have hk := (List.getElem?_eq_some_iff.1 hx).1
  have := List.all_eq_true.1 h.2 k (by simpa using hk)
  unfold okAt at this
  rw [hx] at this
  simp only [Bool.and_eq_true, decide_eq_true_eq] at this
  exact ⟨this.1, this.2.2.2.1, this.2.2.2.2⟩
theorem any_take {xs : List Nod} {k : Nat} {x : Nod} (h : xs[k]? = some x) (p : Nod → Bool) : (xs.take (k + 1)).any p = ((xs.take k).any p || p x) := by rw [take_snoc h]; simp
theorem keep4 {W W' : World} {p q r s : Addr} {a b c d : Value} (h : W.cell? p = some a ∧ W.cell? q = some b ∧ W.cell? r = some c ∧ W.cell? s = some d) (hb : Below W.heap.size W W') : W'.cell? p = some a ∧ W'.cell? q = some b ∧ W'.cell? r = some c ∧ W'.cell? s = some d :=
  ⟨(hb.cell (World.block_lt_of_cell? W _ h.1)).trans h.1, (hb.cell (World.block_lt_of_cell? W _ h.2.1)).trans h.2.1, (hb.cell (World.block_lt_of_cell? W _ h.2.2.1)).trans h.2.2.1, (hb.cell (World.block_lt_of_cell? W _ h.2.2.2)).trans h.2.2.2⟩
theorem prFn_any (x1 x2 : Int) (A : Option Addr) (c : Nat) (l : List Int) (hl : l.length ≤ 1048576) (id : Int) (pb : Nat) (w : World) (h : NumsAt .i64 w w.heap.size A l) (hp : w.cell? ⟨pb, 0, none⟩ = some (.int .i64 id)) :
    Calls Try.prog 43 #[.agg #[.int .i64 x1, .int .i64 x2, .slice A l.length c], .pointer (some ⟨pb, 0, none⟩)] w fun e w' => e = .returned (.bool (skp x1 id l)) ∧ Below w.heap.size w w' := by
  have hlt := World.block_lt_of_cell? w _ hp
  have hA : Below w.heap.size w (w.alloc (.cells #[.int .i64 x1, .int .i64 x2, .slice A l.length c] 41 (0, 0))) := (Below.refl _ _).alloc (Nat.le_refl _) _
  have hp2 := (hA.cell hlt).trans hp
  have HC := Lib.hid (skips_impl x1 x2 A c l id hl _ ((h.below hA).more hA.size))
  go_enter Try.func43, Try.ntmps43
  go_wp2_with fail
  refine (HC.out).mono ?_; rintro e w2 ⟨rfl, hb2⟩
  go_wp2
  go_ret
  exact ⟨rfl, below_next hA hb2⟩
theorem idxNode_any (B : Nat) (A : Option Addr) (c : Nat) (xs : List Nod) (hl : xs.length ≤ 10) (hv : fits xs) (id : Int) (pb : Nat) (w : World) (hB : B ≤ w.heap.size) (h : NodAt w B A xs) (hk : w.cell? ⟨pb, 0, none⟩ = some (.int .i64 id)) :
    Calls Try.prog 57 #[.slice A xs.length c, .func (.func 43) #[] #[.pointer (some ⟨pb, 0, none⟩)]] w fun e w' => (∃ r : Int, e = .returned (.int .i64 r) ∧ decide (0 ≤ r) = skd xs id) ∧ Below w.heap.size w w' := by
  have hkb := World.block_lt_of_cell? w _ hk
  go_enter Try.func57, Try.ntmps57
  go_wp2
  go_loopw [8] (fun i wr => ∃ k : Nat, k ≤ xs.length ∧ i = .int .i64 k ∧ skd (xs.take k) id = false ∧ Below w.heap.size w wr) (fun i _ => xs.length - (intOf i).toNat)
  case atStart => exact ⟨0, Nat.zero_le _, rfl, rfl, Below.refl _ _⟩
  case round =>
    obtain ⟨k, hk', rfl, hall, hb⟩ := hrel
    have hkr := (hb.cell hkb).trans hk
    clear hk
    by_cases hlt : k < xs.length
    · obtain ⟨b, off, rfl⟩ := h.some_ (by omega)
      obtain ⟨x, hx⟩ : ∃ x, xs[k]? = some x := ⟨_, List.getElem?_eq_getElem hlt⟩
      have hfx := hv x (List.mem_of_getElem? hx)
      obtain ⟨A1, c1', c1, c2, c3, -, -, h3⟩ := (h.below (hb.mono hB)).at_ hx
      have HS := Lib.hid (show skd (xs.take (k + 1)) id = (false || skp x.1 id x.2.2) from by unfold skd at hall ⊢; rw [any_take hx, hall])
      have HM := List.mem_of_getElem? hx
      obtain ⟨x1, x2, x3⟩ := x
      simp only at c1 c2 c3 h3 hfx
      have HT : skp x1 id x3 = true → skd xs id = true := fun e => List.any_eq_true.2 ⟨_, HM, e⟩
      have HFN := Lib.hid (prFn_any x1 x2 A1 c1' x3 hfx id pb wr (h3.more (Nat.le_trans hB hb.size)) hkr)
      clear h hx hall HM
      cases hp : skp x1 id x3
      · rw [hp] at HFN
        simp only [hp] at HS
        clear HT
        go_wp2_with fail
        refine HFN.out.mono ?_; rintro e w2 ⟨rfl, hb2⟩
        go_wp2
        go_roundw
        case rel => exact ⟨k + 1, by omega, by go_num, by rw [HS.out]; rfl, below_next (w1 := wr) hb hb2⟩
        case measure => simp [intOf]; omega
      · rw [hp] at HFN
        have HT' := Lib.hid (HT hp)
        clear HT HS
        go_wp2_with fail
        refine HFN.out.mono ?_; rintro e w2 ⟨rfl, hb2⟩
        go_wp2
        go_ret
        exact ⟨⟨_, rfl, by rw [HT'.out]; simp⟩, below_next (w1 := wr) hb hb2⟩
    · clear h
      have : k = xs.length := by omega
      subst this
      rw [List.take_length] at hall
      have HA := Lib.hid hall
      clear hall
      go_wp2
      go_ret
      exact ⟨⟨_, rfl, by rw [HA.out]; rfl⟩, hb⟩
theorem contNode_any (B : Nat) (A : Option Addr) (c : Nat) (xs : List Nod) (hl : xs.length ≤ 10) (hv : fits xs) (id : Int) (pb : Nat) (w : World) (hB : B ≤ w.heap.size) (h : NodAt w B A xs) (hk : w.cell? ⟨pb, 0, none⟩ = some (.int .i64 id)) :
    Calls Try.prog 42 #[.slice A xs.length c, .func (.func 43) #[] #[.pointer (some ⟨pb, 0, none⟩)]] w fun e w' => e = .returned (.bool (skd xs id)) ∧ Below w.heap.size w w' := by
  have HC := Lib.hid (idxNode_any B A c xs hl hv id pb w hB h hk)
  clear h hk
  go_enter Try.func42, Try.ntmps42
  go_wp2_with fail
  refine HC.out.mono ?_; rintro e w' ⟨⟨r, rfl, hr⟩, hb⟩
  have HR := Lib.hid hr
  clear hr
  go_wp2
  go_ret
  exact ⟨ret_bool HR.out, hb⟩
theorem rg_fits {xs : List Nod} (h : rgVal xs = true) : fits xs := fun x hx => by
  obtain ⟨k, hk⟩ := List.getElem?_of_mem hx
  have := (rg_node h hk).2.1
  omega
theorem rpr_impl (B : Nat) (A : Option Addr) (c : Nat) (xs : List Nod) (hl : xs.length ≤ c) (hc : c ≤ maxLen) (w : World) (hB : B ≤ w.heap.size) (h : NodAt w B A xs) :
    Calls Try.prog 25 #[.slice A xs.length c] w (MadeI w (rpr xs)) := by
  have HV := Lib.hid (rv_impl B A c xs hl hc w hB h)
  cases hv : rgVal xs
  · have H := Lib.hid (rpr_no hv)
    clear h
    go_enter Try.func25, Try.ntmps25
    go_wp2_with (go_at_call 12; refine (HV.out).mono ?_; rw [hv]; rintro e w1 ⟨rfl, hb⟩)
    go_ret
    exact ⟨none, 0, by rw [H.out]; rfl, by rw [H.out]; exact OwnI.none_ _ _, hb⟩
  · have H := Lib.hid (rpr_yes hv)
    have hl10 := rg_len hv
    have hfit := rg_fits hv
    obtain ⟨i0, hi, hz0, hz1, hz2⟩ := info_parts int_info
    have HI := Lib.hid hi
    have HZ0 := Lib.hid hz0
    have HZ1 := Lib.hid hz1
    have HZ2 := Lib.hid hz2
    clear hi hz0 hz1 hz2
    go_enter Try.func25, Try.ntmps25
    go_wp2_with fail
    refine (HV.out).mono ?_; rw [hv]; rintro e w1 ⟨rfl, hb1⟩
    clear HV hv
    go_wp2_with fail
    go_loopw [3, 11] (fun s i wr => ∃ (k : Nat) (A' : Option Addr) (c' : Nat), k ≤ xs.length ∧ i = .int .i64 k ∧ s = .slice A' (prTo xs (xs.take k)).length c' ∧ OwnI wr w.heap.size A' c' (prTo xs (xs.take k)) ∧ Below w.heap.size w wr) (fun _ i _ => xs.length - (intOf i).toNat)
    case atStart => exact ⟨0, none, 0, Nat.zero_le _, rfl, rfl, OwnI.none_ _ _, hb1⟩
    case round =>
      obtain ⟨k, A', c', hk, rfl, rfl, ho, hb⟩ := hrel
      clear hb1
      by_cases hlt : k < xs.length
      · obtain ⟨b, off, rfl⟩ := h.some_ (by omega)
        obtain ⟨x, hx⟩ : ∃ x, xs[k]? = some x := ⟨_, List.getElem?_eq_getElem hlt⟩
        have hwr := h.below (hb.mono hB)
        obtain ⟨A1, c1', c1, c2, c3, -, -, -⟩ := hwr.at_ hx
        have HY := Lib.hid (prTo_yes hx)
        have HN := Lib.hid (prTo_no hx)
        obtain ⟨x1, x2, x3⟩ := x
        simp only at c1 c2 c3
        have hsz := hb.size
        have hLk : (prTo xs (xs.take k)).length ≤ 10 := Nat.le_trans (prTo_le _ _) (by simp; omega)
        have hAl : Below wr.heap.size wr (wr.alloc (.cells #[.int .i64 x1, .int .i64 x2, .slice A1 x3.length c1'] 41 (0, 0))) := (Below.refl _ _).alloc (Nat.le_refl _) _
        have hX := alloc_top wr (.cells #[.int .i64 x1, .int .i64 x2, .slice A1 x3.length c1'] 41 (0, 0))
        have HC := Lib.hid (contNode_any B (some ⟨b, off, none⟩) c xs hl10 hfit x1 wr.heap.size (wr.alloc (.cells #[.int .i64 x1, .int .i64 x2, .slice A1 x3.length c1'] 41 (0, 0))) (by simp; omega) (hwr.below (hAl.mono (Nat.le_trans hB hsz))) (cells3 hX).1)
        have HX := Lib.hid hX
        have HAl := Lib.hid hAl
        clear h hx hwr hX hAl
        cases hs : skd xs x1
        · rw [hs] at HC
          replace HN := Lib.hid (HN.out hs)
          clear HY
          go_wp2_with fail
          refine (HC.out).mono ?_; rintro e w2 ⟨rfl, hb2⟩
          have hX2 := (hb2.block wr.heap.size (Array.getElem?_eq_some_iff.1 HX.out).1).trans HX.out
          obtain ⟨d1, d2, d3⟩ := cells3 hX2
          have hb3 : Below wr.heap.size wr w2 := below_next HAl.out hb2
          have ho2 := ho.below hb3 (Nat.le_refl _)
          have hb4 := below_next hb hb3
          have hsz4 := hb4.size
          clear hX2 hb2 hb3 hb ho
          go_wp2_with (at_builtin
                       refine list_app rfl Try.underlying29 HI.out HZ0.out HZ1.out HZ2.out (.tmp 19) (.tmp 22) rfl (base := w.heap.size) (xs := prTo xs (xs.take k)) (ys := [x1]) rfl rfl (OwnI.alloc ho2 _) rfl (SrcI.one _ _) ?_ ?_ ?_
                       · simp; omega
                       · simp; omega
                       intro E2 f2 w4 ho4 hg4 hat4
                       have hb5 : Below w.heap.size w w4 := Below.grown (hb4.alloc hsz4 _) hg4 (by simp; omega) ho2.row
                       clear hat4)
          go_roundw
          case rel => exact ⟨k + 1, E2, f2, by omega, by go_num, by rw [HN.out, List.length_append]; rfl, by rw [HN.out]; exact ho4, hb5⟩
          case measure => simp [intOf]; omega
        · rw [hs] at HC
          replace HY := Lib.hid (HY.out hs)
          clear HN
          go_wp2_with fail
          refine (HC.out).mono ?_; rintro e w2 ⟨rfl, hb2⟩
          have hb3 : Below wr.heap.size wr w2 := below_next HAl.out hb2
          have ho2 := ho.below hb3 (Nat.le_refl _)
          have hb4 := below_next hb hb3
          clear hb2 hb3 hb ho
          go_wp2
          go_roundw
          case rel => exact ⟨k + 1, A', c', by omega, by go_num, by rw [HY.out], by rw [HY.out]; exact ho2, hb4⟩
          case measure => simp [intOf]; omega
      · clear h
        have : k = xs.length := by omega
        subst this
        have HPA := Lib.hid (prTo_all xs)
        go_wp2
        go_ret
        exact ⟨A', c', by rw [H.out, ← HPA.out]; rfl, by rw [H.out, ← HPA.out]; exact ho, hb⟩
theorem pri_spec (B : Nat) (A : Option Addr) (c : Nat) (xs : List Nod) (hv : rgVal xs = true) (w : World) (hB : B ≤ w.heap.size) (h : NodAt w B A xs) :
    Calls Try.prog 41 #[.slice A xs.length c] w (MadeI w (pr xs)) := by
  have hl10 := rg_len hv
  have hfit := rg_fits hv
  obtain ⟨i0, hi, hz0, hz1, hz2⟩ := info_parts int_info
  have HI := Lib.hid hi
  have HZ0 := Lib.hid hz0
  have HZ1 := Lib.hid hz1
  have HZ2 := Lib.hid hz2
  have HV := Lib.hid hv
  clear hi hz0 hz1 hz2 hv
  go_enter Try.func41, Try.ntmps41
  go_wp2_with fail
  go_loopw [3, 4] (fun s i wr => ∃ (k : Nat) (A' : Option Addr) (c' : Nat), k ≤ xs.length ∧ i = .int .i64 k ∧ s = .slice A' (prTo xs (xs.take k)).length c' ∧ OwnI wr w.heap.size A' c' (prTo xs (xs.take k)) ∧ Below w.heap.size w wr) (fun _ i _ => xs.length - (intOf i).toNat)
  case atStart => exact ⟨0, _, 0, Nat.zero_le _, rfl, rfl, OwnI.empty w (Nat.le_refl _), (Below.refl _ _).alloc (Nat.le_refl _) _⟩
  case round =>
    obtain ⟨k, A', c', hk, rfl, rfl, ho, hb⟩ := hrel
    by_cases hlt : k < xs.length
    · obtain ⟨b, off, rfl⟩ := h.some_ (by omega)
      obtain ⟨x, hx⟩ : ∃ x, xs[k]? = some x := ⟨_, List.getElem?_eq_getElem hlt⟩
      have hpx := (rg_node HV.out hx).1
      have HY := Lib.hid (prTo_yes hx)
      have HN := Lib.hid (prTo_no hx)
      have HXX := Lib.hid hx
      obtain ⟨x1, x2, x3⟩ := x
      simp only at hpx
      have hLk : (prTo xs (xs.take k)).length ≤ 10 := Nat.le_trans (prTo_le _ _) (by simp; omega)
      clear hx
      go_wp2_with fail
      go_loopw [5, 6] (fun f i w5 => ∃ m : Nat, m ≤ xs.length ∧ i = .int .i64 m ∧ f = .bool (skd (xs.take m) x1) ∧ Below wr.heap.size wr w5) (fun _ i _ => xs.length - (intOf i).toNat)
      case atStart => exact ⟨0, Nat.zero_le _, rfl, rfl, Below.refl _ _⟩
      case round =>
        rename World => w5
        obtain ⟨m, hm, rfl, rfl, hb5⟩ := hrel
        have hb6 := below_next hb hb5
        have hw5 := h.below (hb6.mono hB)
        obtain ⟨A0, c0', d1, d2, d3, -, -, -⟩ := hw5.at_ HXX.out
        clear d2 d3
        simp only at d1
        by_cases hlt5 : m < xs.length
        · obtain ⟨y, hy⟩ : ∃ y, xs[m]? = some y := ⟨_, List.getElem?_eq_getElem hlt5⟩
          obtain ⟨A1, c1', c1, c2, c3, -, -, h3⟩ := hw5.at_ hy
          obtain ⟨hy1, hy2, hy3⟩ := rg_node HV.out hy
          have HS := Lib.hid (show skd (xs.take (m + 1)) x1 = (skd (xs.take m) x1 || skp y.1 x1 y.2.2) from by unfold skd; rw [any_take hy])
          obtain ⟨y1, y2, y3⟩ := y
          simp only at c1 c2 c3 h3 hy1 hy2 hy3
          have hB5 : Below w.heap.size w w5 := hb6
          have HC := Lib.hid (skips_spec y1 y2 A1 c1' y3 x1 (by omega) hy1 hpx hy3 w5.drew (h3.more (Nat.le_trans hB hb6.size)))
          have HB5 := Lib.hid hb5
          simp only at HS
          clear hw5 hy h3 hy2 hy3 hy1 hb6 hB5 hb5 h hb ho
          cases hs : skd (xs.take m) x1
          · rw [hs] at HS
            cases hp : skp y1 x1 y3
            all_goals
              rw [hp] at HS HC
              go_wp2_with fail
              refine wp_region_held_drew (S := fun W => W.cell? ⟨b, off + m * 3, none⟩ = some (.int .i64 y1) ∧ W.cell? ⟨b, off + m * 3 + 1, none⟩ = some (.int .i64 y2) ∧ W.cell? ⟨b, off + m * 3 + 2, none⟩ = some (.slice A1 y3.length c1') ∧ W.cell? ⟨b, off + k * 3, none⟩ = some (.int .i64 x1)) (by kernel_rfl) (keep4 (W := w5) ⟨c1, c2, c3, d1⟩ (below_draw ⟨1, rfl⟩)) (fun hHeld => ?_)
              refine wpAnyH_take (i := 0) (v := ?_) rfl (by kernel_rfl) (by kernel_rfl) (by kernel_rfl) (fun _ _ _ h => h) (Or.inl ⟨by rfl, ?_⟩) hHeld ?_
              rotate_left
              · intro w hSw; (try dsimp only at hSw); go_simp <;> with_reducible rfl
              try simp only [Act.put, List.getElem_toArray, List.getElem_cons_zero, List.setIfInBounds_toArray, List.set_cons_zero, List.set_cons_succ]
              refine wpAnyH_take (i := 1) (v := ?_) rfl (by kernel_rfl) (by kernel_rfl) (by kernel_rfl) (fun _ _ _ h => h) (Or.inl ⟨by rfl, ?_⟩) hHeld ?_
              rotate_left
              · intro w hSw; (try dsimp only at hSw); go_simp <;> with_reducible rfl
              try simp only [Act.put, List.getElem_toArray, List.getElem_cons_zero, List.getElem_cons_succ, List.setIfInBounds_toArray, List.set_cons_zero, List.set_cons_succ]
              refine wpAnyH_take (i := 2) (v := ?_) rfl (by kernel_rfl) (by kernel_rfl) (by kernel_rfl) (fun _ _ _ h => h) (Or.inl ⟨by rfl, ?_⟩) hHeld ?_
              rotate_left
              · intro w hSw; (try dsimp only at hSw); go_simp <;> with_reducible rfl
              try simp only [Act.put, List.getElem_toArray, List.getElem_cons_zero, List.getElem_cons_succ, List.setIfInBounds_toArray, List.set_cons_zero, List.set_cons_succ]
              refine wpAnyH_take (i := 3) (v := ?_) rfl (by kernel_rfl) (by kernel_rfl) (by kernel_rfl) (fun _ _ _ h => h) (Or.inl ⟨by rfl, ?_⟩) hHeld ?_
              rotate_left
              · intro w hSw; (try dsimp only at hSw); go_simp <;> with_reducible rfl
              try simp only [Act.put, List.getElem_toArray, List.getElem_cons_zero, List.getElem_cons_succ, List.setIfInBounds_toArray, List.set_cons_zero, List.set_cons_succ]
              refine wpAnyH_take (i := 4) (v := ?_) rfl (by kernel_rfl) (by kernel_rfl) (by kernel_rfl) (fun _ _ _ h => h) (Or.inl ⟨by rfl, ?_⟩) hHeld ?_
              rotate_left
              · intro w hSw; (try dsimp only at hSw); go_simp <;> with_reducible rfl
              try simp only [Act.put, List.getElem_toArray, List.getElem_cons_zero, List.getElem_cons_succ, List.setIfInBounds_toArray, List.set_cons_zero, List.set_cons_succ]
              refine wpAnyH_take (i := 5) (v := ?_) rfl (by kernel_rfl) (by kernel_rfl) (by kernel_rfl) (fun _ _ _ h => h) (Or.inl ⟨by rfl, ?_⟩) hHeld ?_
              rotate_left
              · intro w hSw; (try dsimp only at hSw); go_simp <;> with_reducible rfl
              try simp only [Act.put, List.getElem_toArray, List.getElem_cons_zero, List.getElem_cons_succ, List.setIfInBounds_toArray, List.set_cons_zero, List.set_cons_succ]
              refine wpAnyH_take (i := 6) (v := ?_) rfl (by kernel_rfl) (by kernel_rfl) (by kernel_rfl) (fun _ _ _ h => h) (Or.inl ⟨by rfl, ?_⟩) hHeld ?_
              rotate_left
              · intro w hSw; (try dsimp only at hSw); go_simp <;> with_reducible rfl
              try simp only [Act.put, List.getElem_toArray, List.getElem_cons_zero, List.getElem_cons_succ, List.setIfInBounds_toArray, List.set_cons_zero, List.set_cons_succ]
              refine wpAnyH_take (i := 7) (v := ?_) rfl (by kernel_rfl) (by kernel_rfl) (by kernel_rfl) (fun _ _ _ h => h) (Or.inl ⟨by rfl, ?_⟩) hHeld ?_
              rotate_left
              · intro w hSw; (try dsimp only at hSw); go_simp <;> with_reducible rfl
              try simp only [Act.put, List.getElem_toArray, List.getElem_cons_zero, List.getElem_cons_succ, List.setIfInBounds_toArray, List.set_cons_zero, List.set_cons_succ]
              refine wpAnyH_take (i := 8) (v := ?_) rfl (by kernel_rfl) (by kernel_rfl) (by kernel_rfl) (fun _ _ _ h => h) (Or.inl ⟨by rfl, ?_⟩) hHeld ?_
              rotate_left
              · intro w hSw; (try dsimp only at hSw); go_simp <;> with_reducible rfl
              try simp only [Act.put, List.getElem_toArray, List.getElem_cons_zero, List.getElem_cons_succ, List.setIfInBounds_toArray, List.set_cons_zero, List.set_cons_succ]
              refine wpAnyH_take (i := 9) (v := ?_) rfl (by kernel_rfl) (by kernel_rfl) (by kernel_rfl) (fun _ _ _ h => h) (Or.inl ⟨by rfl, ?_⟩) hHeld ?_
              rotate_left
              · intro w hSw; (try dsimp only at hSw); go_simp <;> with_reducible rfl
              try simp only [Act.put, List.getElem_toArray, List.getElem_cons_zero, List.getElem_cons_succ, List.setIfInBounds_toArray, List.set_cons_zero, List.set_cons_succ]
              refine wpAnyH_take (i := 10) (v := ?_) rfl (by kernel_rfl) (by kernel_rfl) (by kernel_rfl) (fun _ _ _ h => h) (Or.inl ⟨by rfl, ?_⟩) hHeld ?_
              rotate_left
              · intro w hSw; (try dsimp only at hSw); go_simp <;> with_reducible rfl
              try simp only [Act.put, List.getElem_toArray, List.getElem_cons_zero, List.getElem_cons_succ, List.setIfInBounds_toArray, List.set_cons_zero, List.set_cons_succ]
              refine wpAnyH_ready (rs := [11]) (by kernel_rfl) (by simp) ?_
              refine AllReadyH.cons rfl (fun K hK => ?_) AllReadyH.nil
              go_simp
              refine (HC.out).mono ?_
              rintro e W2 ⟨rfl, hb2⟩
              go_wp2_with fail
              refine hK.out _ _ (keep4 (W := w5) ⟨c1, c2, c3, d1⟩ (below_undrew hb2)) (fun hHeld => ?_)
              clear hK K
              try simp only [Act.put, List.getElem_toArray, List.getElem_cons_zero, List.getElem_cons_succ, List.setIfInBounds_toArray, List.set_cons_zero, List.set_cons_succ]
              refine wpAnyH_take (i := 12) (v := ?_) rfl (by kernel_rfl) (by kernel_rfl) (by kernel_rfl) (fun _ _ _ h => h) (Or.inl ⟨by rfl, ?_⟩) hHeld ?_
              rotate_left
              · intro w hSw; (try dsimp only at hSw); go_simp <;> with_reducible rfl
              try simp only [Act.put, List.getElem_toArray, List.getElem_cons_zero, List.getElem_cons_succ, List.setIfInBounds_toArray, List.set_cons_zero, List.set_cons_succ]
              refine wpAnyH_take (i := 13) (v := ?_) rfl (by kernel_rfl) (by kernel_rfl) (by kernel_rfl) (fun _ _ _ h => h) (Or.inl ⟨by rfl, ?_⟩) hHeld ?_
              rotate_left
              · intro w hSw; (try dsimp only at hSw); go_simp <;> with_reducible rfl
              try simp only [Act.put, List.getElem_toArray, List.getElem_cons_zero, List.getElem_cons_succ, List.setIfInBounds_toArray, List.set_cons_zero, List.set_cons_succ]
              refine wpAnyH_done (by kernel_rfl) ?_ _
              go_wp2
              go_roundw
              case rel => exact ⟨m + 1, by omega, by go_num, by rw [HS.out]; rfl, below_next HB5.out (below_undrew hb2)⟩
              case measure => simp [intOf]; omega
          · rw [hs] at HS
            clear HC
            go_wp2_with fail
            go_quiet (fail)
            go_wp2
            go_roundw
            case rel => exact ⟨m + 1, by omega, by go_num, by rw [HS.out]; rfl, below_drewN HB5.out _⟩
            case measure => simp [intOf]; omega
        · have : m = xs.length := by omega
          subst this
          rw [List.take_length]
          have ho5 := ho.below hb5 (Nat.le_refl _)
          have hsz5 := hb6.size
          clear h hw5 hb hb5 ho
          cases hs : skd xs x1
          · replace HN := Lib.hid (HN.out hs)
            clear HY
            go_wp2_with (at_builtin
                         refine list_app rfl Try.underlying29 HI.out HZ0.out HZ1.out HZ2.out (.tmp 35) (.tmp 41) rfl (base := w.heap.size) (xs := prTo xs (xs.take k)) (ys := [x1]) rfl rfl (OwnI.alloc ho5 _) rfl (SrcI.one _ _) ?_ ?_ ?_
                         · simp; omega
                         · simp; omega
                         intro E2 f2 w4 ho4 hg4 hat4
                         have hb7 : Below w.heap.size w w4 := Below.grown (hb6.alloc hsz5 _) hg4 (by simp; omega) ho5.row
                         clear hat4)
            refine ⟨⟨k + 1, E2, f2, by omega, by go_num, by rw [HN.out, List.length_append]; rfl, by rw [HN.out]; exact ho4, hb7⟩, ?_⟩
            simp only [intOf]; omega
          · replace HY := Lib.hid (HY.out hs)
            clear HN
            go_wp2_with fail
            refine ⟨⟨k + 1, A', c', by omega, by go_num, by rw [HY.out], by rw [HY.out]; exact ho5, hb6⟩, ?_⟩
            simp only [intOf]; omega
    · clear h
      have : k = xs.length := by omega
      subst this
      have HPA := Lib.hid (prTo_all xs)
      go_wp2
      go_ret
      exact ⟨A', c', by rw [← HPA.out]; rfl, by rw [← HPA.out]; exact ho, hb⟩
theorem rpr_spec (B : Nat) (A : Option Addr) (c : Nat) (xs : List Nod) (hl : xs.length ≤ c) (hc : c ≤ maxLen) (w : World) (hB : B ≤ w.heap.size) (h : NodAt w B A xs) :
    Calls Try.prog 24 #[.slice A xs.length c] w (MadeI w (rpr xs)) := by
  have HV := Lib.hid (rv_spec B A c xs hl hc w hB h)
  cases hv : rgVal xs
  · have H := Lib.hid (rpr_no hv)
    clear h
    go_enter Try.func24, Try.ntmps24
    go_wp2_with (go_at_call 10; refine (HV.out).mono ?_; rw [hv]; rintro e w1 ⟨rfl, hb⟩)
    go_ret
    exact ⟨_, 0, by rw [H.out]; rfl, by rw [H.out]; exact (OwnI.empty w1 (Nat.le_refl _)).base hb.size, hb.alloc hb.size _⟩
  · have H := Lib.hid (rpr_yes hv)
    have HN := fun (W : World) (hW : Below w.heap.size w W) => Lib.hid (pri_spec B A c xs hv W (Nat.le_trans hB hW.size) (h.below (hW.mono hB)))
    clear h
    go_enter Try.func24, Try.ntmps24
    go_wp2_with (first
      | (go_at_call 10; refine (HV.out).mono ?_; rw [hv]; rintro e w1 ⟨rfl, hb⟩)
      | (go_at_call 41; refine ((HN _ hb).out).mono ?_; rintro e w2 ⟨A', c', rfl, ho, hb2⟩))
    go_ret
    exact ⟨A', c', by rw [H.out]; rfl, by rw [H.out]; exact ho.base hb.size, below_next hb hb2⟩
end Go.Proofs.Ytmhneigglmingaa
