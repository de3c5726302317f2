/- Walks: RingNew of the reference and of the implementation. -/
import Derived.Test.YtmhneigglmingaaIdl
namespace Go.Proofs.Ytmhneigglmingaa
open Go.RowKit
set_option maxHeartbeats 4000000
set_option linter.unusedVariables false
def rok (xs : List Int) : Bool := nval xs && decide (3 ≤ xs.length)
def rnw (xs : List Int) : List Nod := if rok xs = true then ideal xs else []
theorem rnw_yes {xs : List Int} (h : rok xs = true) : rnw xs = ideal xs := by unfold rnw; rw [if_pos h]
theorem rnw_no {xs : List Int} (h : rok xs = false) : rnw xs = [] := by unfold rnw; rw [h]; rfl
theorem ideal_len (xs : List Int) : (ideal xs).length = xs.length := idTo_len xs _
def RnRet (w : World) (xs : List Int) (e : Ending) (w' : World) : Prop :=
  (∃ A' c', e = .returned (.tuple #[.slice A' (rnw xs).length c', .bool (rok xs)]) ∧ RowN w' w.heap.size A' c' (rnw xs).length (rnw xs)) ∧ Below w.heap.size w w'
theorem rn_spec (B : Nat) (A : Option Addr) (c : Nat) (xs : List Int) (hl : xs.length ≤ maxLen) (w : World) (hB : B ≤ w.heap.size) (h : NumsAt .i64 w B A xs) :
    Calls Try.prog 14 #[.slice A xs.length c] w (RnRet w xs) := by
  have HV := Lib.hid (nval_spec B A c xs hl w h)
  cases hv : nval xs
  · have H := Lib.hid (show rok xs = false from by unfold rok; rw [hv]; rfl)
    have H2 := Lib.hid (rnw_no H.out)
    clear h
    go_enter Try.func14, Try.ntmps14
    go_wp2_with (go_at_call 36; refine (HV.out).mono ?_; rintro e w' ⟨rfl, n, rfl⟩; rw [hv])
    go_ret2
    refine ⟨⟨some ⟨w.heap.size, 0, none⟩, 0, by rw [H.out, H2.out]; rfl, by rw [H2.out]; exact RowN.empty (w.drewN n) (Nat.le_refl _)⟩, (below_draw ⟨n, rfl⟩).alloc (Nat.le_refl _) _⟩
  by_cases h3 : xs.length < 3
  · have H := Lib.hid (show rok xs = false from by unfold rok; rw [hv, decide_eq_false (by omega)]; rfl)
    have H2 := Lib.hid (rnw_no H.out)
    have h3' : (xs.length : Int) < 3 := by omega
    clear h
    go_enter Try.func14, Try.ntmps14
    go_wp2_with (go_at_call 36; refine (HV.out).mono ?_; rintro e w' ⟨rfl, n, rfl⟩; rw [hv])
    go_ret2
    refine ⟨⟨some ⟨w.heap.size, 0, none⟩, 0, by rw [H.out, H2.out]; rfl, by rw [H2.out]; exact RowN.empty (w.drewN n) (Nat.le_refl _)⟩, (below_draw ⟨n, rfl⟩).alloc (Nat.le_refl _) _⟩
  · have H := Lib.hid (show rok xs = true from by unfold rok; rw [hv, decide_eq_true (by omega)]; rfl)
    have H2 := Lib.hid (rnw_yes H.out)
    have HL := Lib.hid (ideal_len xs)
    have h3' : ¬ (xs.length : Int) < 3 := by omega
    have HF := fun n => Lib.hid (ideal_spec B A c xs (by omega) (nval_len hv).2 (w.drewN n) hB (h.drewN n))
    clear h
    go_enter Try.func14, Try.ntmps14
    go_wp2_with (first
      | (go_at_call 36; refine (HV.out).mono ?_; rintro e w' ⟨rfl, n, rfl⟩; rw [hv])
      | (go_at_call 37; refine ((HF _).out).mono ?_; rintro e w2 ⟨⟨A', c', rfl, ho⟩, hb⟩))
    go_ret2
    exact ⟨⟨A', c', by rw [H.out, H2.out, HL.out]; rfl, by rw [H2.out]; exact ho⟩, (below_draw ⟨n, rfl⟩).trans hb⟩
theorem heap_set2 {w : World} {n : Nat} {a b c v : Value} {t : TypeId} (h : w.heap[n]? = some (.cells #[a, b, c] t (0, 0))) : (w.setCell ⟨n, 2, none⟩ v).heap[n]? = some (.cells #[a, b, v] t (0, 0)) := by
  simp only [World.setCell, Array.getElem?_modify]
  simp [h]
theorem rn_impl (B : Nat) (A : Option Addr) (c : Nat) (xs : List Int) (hl : xs.length ≤ maxLen) (w : World) (hB : B ≤ w.heap.size) (h : NumsAt .i64 w B A xs) :
    Calls Try.prog 16 #[.slice A xs.length c] w (RnRet w xs) := by
  have HV := Lib.hid (nval_impl B A c xs hl w h)
  cases hv : nval xs
  · have H := Lib.hid (show rok xs = false from by unfold rok; rw [hv]; rfl)
    have H2 := Lib.hid (rnw_no H.out)
    clear h
    go_enter Try.func16, Try.ntmps16
    go_wp2_with (go_at_call 38; refine (HV.out).mono ?_; rintro e w' ⟨rfl, rfl⟩; rw [hv])
    go_ret2
    exact ⟨⟨none, 0, by rw [H.out, H2.out]; rfl, by rw [H2.out]; exact RowN.none_ _ _⟩, Below.refl _ _⟩
  by_cases h3 : xs.length < 3
  · have H := Lib.hid (show rok xs = false from by unfold rok; rw [hv, decide_eq_false (by omega)]; rfl)
    have H2 := Lib.hid (rnw_no H.out)
    have h3' : (xs.length : Int) < 3 := by omega
    clear h
    go_enter Try.func16, Try.ntmps16
    go_wp2_with (go_at_call 38; refine (HV.out).mono ?_; rintro e w' ⟨rfl, rfl⟩; rw [hv])
    go_ret2
    exact ⟨⟨none, 0, by rw [H.out, H2.out]; rfl, by rw [H2.out]; exact RowN.none_ _ _⟩, Below.refl _ _⟩
  have H := Lib.hid (show rok xs = true from by unfold rok; rw [hv, decide_eq_true (by omega)]; rfl)
  have H2 := Lib.hid (rnw_yes H.out)
  have HLI := Lib.hid (ideal_len xs)
  have h3' : ¬ (xs.length : Int) < 3 := by omega
  have h10 := (nval_len hv).2
  obtain ⟨i0, hi, hz0, hz1, hz2⟩ := info_parts int_info
  have HI := Lib.hid hi
  have HZ0 := Lib.hid hz0
  have HZ1 := Lib.hid hz1
  have HZ2 := Lib.hid hz2
  clear hi hz0 hz1 hz2
  obtain ⟨j0, hj, hy0, hy1, hy2⟩ := info_parts nod_info
  have HJ := Lib.hid hj
  have HY0 := Lib.hid hy0
  have HY1 := Lib.hid hy1
  have HY2 := Lib.hid hy2
  clear hj hy0 hy1 hy2
  obtain ⟨ad, rfl⟩ : ∃ ad, A = some ad := by obtain ⟨ad, _, e, _⟩ := h 0 (by omega); exact ⟨ad, e⟩
  go_enter Try.func16, Try.ntmps16
  go_wp2_with (go_at_call 38; refine (HV.out).mono ?_; rintro e w' ⟨rfl, rfl⟩; rw [hv])
  clear HV hv
  go_loopw [4, 22] (fun s i wr => ∃ (k : Nat) (A' : Option Addr) (c' : Nat), k ≤ xs.length ∧ i = .int .i64 k ∧ s = .slice A' k c' ∧ RowN wr w.heap.size A' c' (idTo xs k).length (idTo xs k) ∧ Below w.heap.size w wr) (fun _ i _ => xs.length - (intOf i).toNat)
  case atStart => exact ⟨0, none, 0, Nat.zero_le _, rfl, rfl, RowN.none_ _ _, Below.refl _ _⟩
  case round =>
    obtain ⟨k, A', c', hk, rfl, rfl, ho, hb⟩ := hrel
    by_cases hlt : k < xs.length
    · have hn := h.below (hb.mono hB)
      obtain ⟨p1, hp1⟩ : ∃ p, p = (k + xs.length - 1) % xs.length := ⟨_, rfl⟩
      obtain ⟨p2, hp2⟩ : ∃ p, p = (k + 1) % xs.length := ⟨_, rfl⟩
      obtain ⟨p3, hp3⟩ : ∃ p, p = (k + 2) % xs.length := ⟨_, rfl⟩
      have l1 : p1 < xs.length := by rw [hp1]; exact Nat.mod_lt _ (by omega)
      have l2 : p2 < xs.length := by rw [hp2]; exact Nat.mod_lt _ (by omega)
      have l3 : p3 < xs.length := by rw [hp3]; exact Nat.mod_lt _ (by omega)
      have c0 := el_at hn hlt
      have c1 := el_at hn l1
      have c2 := el_at hn l2
      have c3 := el_at hn l3
      have m1 : ((k : Int) + (xs.length : Int) - 1).tmod (xs.length : Int) = (p1 : Int) := by rw [hp1]; exact tmod_nat (by omega)
      have m2 : ((k : Int) + 1).tmod (xs.length : Int) = (p2 : Int) := by rw [hp2]; exact tmod_nat (by omega)
      have m3 : ((k : Int) + 2).tmod (xs.length : Int) = (p3 : Int) := by rw [hp3]; exact tmod_nat (by omega)
      have v1 : IntKind.i64.wrap ((k : Int) + (xs.length : Int)) = (k : Int) + (xs.length : Int) := wrap_small (by omega) (by omega)
      have v2 : IntKind.i64.wrap ((k : Int) + (xs.length : Int) - 1) = (k : Int) + (xs.length : Int) - 1 := wrap_small (by omega) (by omega)
      have v3 : IntKind.i64.wrap ((k : Int) + 1) = (k : Int) + 1 := wrap_small (by omega) (by omega)
      have v4 : IntKind.i64.wrap ((k : Int) + 2) = (k : Int) + 2 := wrap_small (by omega) (by omega)
      have HD := Lib.hid (show idn xs k = (el xs k, el xs p1, [el xs p2, el xs p3]) from by rw [hp1, hp2, hp3]; rfl)
      have HS := Lib.hid (idTo_succ xs k)
      have HL := Lib.hid (idTo_len xs k)
      have hlz : (k : Int) < (xs.length : Int) := by omega
      have z1 : (p1 : Int) < (xs.length : Int) := by omega
      have z2 : (p2 : Int) < (xs.length : Int) := by omega
      have z3 : (p3 : Int) < (xs.length : Int) := by omega
      have hne : ¬ xs = [] := by intro e; subst e; simp at hlt
      have hsz := hb.size
      have had : ad.block < w.heap.size := by obtain ⟨_, _, e, hbb, _⟩ := h 0 (by omega); injection e with e; subst e; omega
      clear h hn hp1 hp2 hp3
      generalize el xs k = a0 at c0 HD
      generalize el xs p1 = a1 at c1 HD
      generalize el xs p2 = a2 at c2 HD
      generalize el xs p3 = a3 at c3 HD
      obtain ⟨X, hX⟩ : ∃ X, X = Obj.cells #[.int .i64 a0, .int .i64 a1, .slice none 0 0] 41 (0, 0) := ⟨_, rfl⟩
      have hE0 : (wr.alloc X).heap[wr.heap.size]? = some X := alloc_top wr X
      have hB0 : Below wr.heap.size wr (wr.alloc X) := (Below.refl _ _).alloc (Nat.le_refl _) _
      have hS0 : wr.heap.size < (wr.alloc X).heap.size := by simp
      rw [hX] at hE0 hB0 hS0
      clear hX
      go_wp2_with fail
      go_loopw [9] (fun j w5 => ∃ (m : Nat) (A5 : Option Addr) (c5 : Nat), m ≤ 2 ∧ j = .int .i64 ((m : Int) + 1) ∧ w5.heap[wr.heap.size]? = some (.cells #[.int .i64 a0, .int .i64 a1, .slice A5 m c5] 41 (0, 0)) ∧ OwnI w5 (wr.heap.size + 1) A5 c5 ([a2, a3].take m) ∧ Below wr.heap.size wr w5) (fun j _ => 3 - (intOf j).toNat)
      case atStart => exact ⟨0, none, 0, Nat.zero_le _, rfl, hE0, OwnI.none_ _ _, hB0⟩
      case round =>
        rename World => w5
        obtain ⟨m, A5, c5, hm, rfl, hE, hoi, hb5⟩ := hrel
        clear hE0 hB0 hS0
        have hlt5 : wr.heap.size < w5.heap.size := (Array.getElem?_eq_some_iff.1 hE).1
        have hrow := hoi.row
        obtain ⟨e1, e2, e3⟩ := cells3 hE
        have f3 := free3 hE 2
        have hb5w : Below w.heap.size wr w5 := hb5.mono hsz
        rcases (by omega : m = 0 ∨ m = 1 ∨ m = 2) with rfl | rfl | rfl
        · have cq := (hb5w.cell (p := ad.add p2) (by rw [block_add]; exact had)).trans c2
          have hBa : Below w5.heap.size w5 (w5.alloc (.cells #[.int .i64 a2] 3 (0, 0))).drew := ((Below.refl _ _).alloc (Nat.le_refl _) _).drew
          have e3d : w5.drew.cell? ⟨wr.heap.size, 2, none⟩ = some (.slice A5 0 c5) := e3
          have e3a : (w5.alloc (.cells #[.int .i64 a2] 3 (0, 0))).drew.cell? ⟨wr.heap.size, 2, none⟩ = some (.slice A5 0 c5) := (hBa.cell (p := ⟨wr.heap.size, 2, none⟩) hlt5).trans e3
          have hEa : (w5.alloc (.cells #[.int .i64 a2] 3 (0, 0))).drew.heap[wr.heap.size]? = some (.cells #[.int .i64 a0, .int .i64 a1, .slice A5 0 c5] 41 (0, 0)) := (hBa.block _ hlt5).trans hE
          have hoa := (hoi.alloc (.cells #[.int .i64 a2] 3 (0, 0))).drewN 1
          have hsrc : SrcI (w5.alloc (.cells #[.int .i64 a2] 3 (0, 0))).drew (some ⟨w5.heap.size, 0, none⟩) 1 1 [a2] := SrcI.one_of (hp_drew (hp_new w5 _))
          have HEA := Lib.hid hEa
          have HOA := Lib.hid hoa
          have HSRC := Lib.hid hsrc
          have HBA := Lib.hid hBa
          have HB5 := Lib.hid hb5
          have HROW := Lib.hid hrow
          have HHO := Lib.hid ho
          have HHB := Lib.hid hb
          clear hE hoi hEa hoa hsrc hBa hb5 hrow ho hb
          go_wp2_with fail
          refine wp_region_held_drew (S := fun W => W.cell? (ad.add p2) = some (.int .i64 a2)) (by kernel_rfl) (cq) (fun hHeld => ?_)
          refine wpAnyH_take (i := 0) (v := ?_) rfl (by kernel_rfl) (by kernel_rfl) (by kernel_rfl) (fun _ _ _ h => h) (Or.inl ⟨by rfl, ?_⟩) hHeld ?_
          rotate_left
          · intro w hSw; (try dsimp only at hSw); go_simp <;> with_reducible rfl
          try simp only [Act.put, List.getElem_toArray, List.getElem_cons_zero, List.setIfInBounds_toArray, List.set_cons_zero, List.set_cons_succ]
          refine wpAnyH_take (i := 2) (v := ?_) rfl (by kernel_rfl) (by kernel_rfl) (by kernel_rfl) (fun _ _ _ h => h) (Or.inl ⟨by rfl, ?_⟩) hHeld ?_
          rotate_left
          · intro w hSw; (try dsimp only at hSw); go_simp <;> with_reducible rfl
          try simp only [Act.put, List.getElem_toArray, List.getElem_cons_zero, List.getElem_cons_succ, List.setIfInBounds_toArray, List.set_cons_zero, List.set_cons_succ]
          refine wpAnyH_take (i := 3) (v := ?_) rfl (by kernel_rfl) (by kernel_rfl) (by kernel_rfl) (fun _ _ _ h => h) (Or.inl ⟨by rfl, ?_⟩) hHeld ?_
          rotate_left
          · intro w hSw; (try dsimp only at hSw); go_simp <;> with_reducible rfl
          try simp only [Act.put, List.getElem_toArray, List.getElem_cons_zero, List.getElem_cons_succ, List.setIfInBounds_toArray, List.set_cons_zero, List.set_cons_succ]
          refine wpAnyH_take (i := 4) (v := ?_) rfl (by kernel_rfl) (by kernel_rfl) (by kernel_rfl) (fun _ _ _ h => h) (Or.inl ⟨by rfl, ?_⟩) hHeld ?_
          rotate_left
          · intro w hSw; (try dsimp only at hSw); go_simp <;> with_reducible rfl
          try simp only [Act.put, List.getElem_toArray, List.getElem_cons_zero, List.getElem_cons_succ, List.setIfInBounds_toArray, List.set_cons_zero, List.set_cons_succ]
          refine wpAnyH_take (i := 5) (v := ?_) rfl (by kernel_rfl) (by kernel_rfl) (by kernel_rfl) (fun _ _ _ h => h) (Or.inl ⟨by rfl, ?_⟩) hHeld ?_
          rotate_left
          · intro w hSw; (try dsimp only at hSw); go_simp <;> with_reducible rfl
          try simp only [Act.put, List.getElem_toArray, List.getElem_cons_zero, List.getElem_cons_succ, List.setIfInBounds_toArray, List.set_cons_zero, List.set_cons_succ]
          refine wpAnyH_take (i := 6) (v := ?_) rfl (by kernel_rfl) (by kernel_rfl) (by kernel_rfl) (fun _ _ _ h => h) (Or.inl ⟨by rfl, ?_⟩) hHeld ?_
          rotate_left
          · intro w hSw; (try dsimp only at hSw); go_simp <;> with_reducible rfl
          try simp only [Act.put, List.getElem_toArray, List.getElem_cons_zero, List.getElem_cons_succ, List.setIfInBounds_toArray, List.set_cons_zero, List.set_cons_succ]
          refine wpAnyH_take (i := 7) (v := ?_) rfl (by kernel_rfl) (by kernel_rfl) (by kernel_rfl) (fun _ _ _ h => h) (Or.inl ⟨by rfl, ?_⟩) hHeld ?_
          rotate_left
          · intro w hSw; (try dsimp only at hSw); go_simp <;> with_reducible rfl
          try simp only [Act.put, List.getElem_toArray, List.getElem_cons_zero, List.getElem_cons_succ, List.setIfInBounds_toArray, List.set_cons_zero, List.set_cons_succ]
          refine wpAnyH_take (i := 8) (v := ?_) rfl (by kernel_rfl) (by kernel_rfl) (by kernel_rfl) (fun _ _ _ h => h) (Or.inl ⟨by rfl, ?_⟩) hHeld ?_
          rotate_left
          · intro w hSw; (try dsimp only at hSw); go_simp <;> with_reducible rfl
          try simp only [Act.put, List.getElem_toArray, List.getElem_cons_zero, List.getElem_cons_succ, List.setIfInBounds_toArray, List.set_cons_zero, List.set_cons_succ]
          refine wpAnyH_take (i := 9) (v := ?_) rfl (by kernel_rfl) (by kernel_rfl) (by kernel_rfl) (fun _ _ _ h => h) (Or.inl ⟨by rfl, ?_⟩) hHeld ?_
          rotate_left
          · intro w hSw; (try dsimp only at hSw); go_simp <;> with_reducible rfl
          try simp only [Act.put, List.getElem_toArray, List.getElem_cons_zero, List.getElem_cons_succ, List.setIfInBounds_toArray, List.set_cons_zero, List.set_cons_succ]
          refine wpAnyH_ready (rs := [1, 10]) (by kernel_rfl) (by simp) ?_
          refine AllReadyH.cons rfl (fun K hK => ?_) (AllReadyH.cons rfl (fun K hK => ?_) AllReadyH.nil)
          · go_simp
            refine hK.out _ _ (cq) (fun hHeld => ?_)
            clear hK K
            try simp only [Act.put, List.getElem_toArray, List.getElem_cons_zero, List.getElem_cons_succ, List.setIfInBounds_toArray, List.set_cons_zero, List.set_cons_succ]
            refine wpAnyH_ready (rs := [10]) (by kernel_rfl) (by simp) ?_
            refine AllReadyH.cons rfl (fun K hK => ?_) AllReadyH.nil
            go_simp
            refine hK.out _ _ ((HBA.out.mono (Nat.le_trans hsz (Nat.le_of_lt hlt5))).cell (p := ad.add p2) (by rw [block_add]; exact had) |>.trans cq) (fun hHeld => ?_)
            clear hK K
            try simp only [Act.put, List.getElem_toArray, List.getElem_cons_zero, List.getElem_cons_succ, List.setIfInBounds_toArray, List.set_cons_zero, List.set_cons_succ]
            refine wpAnyH_ready (rs := [11]) (by kernel_rfl) (by simp) ?_
            refine AllReadyH.cons rfl (fun K hK => ?_) AllReadyH.nil
            refine step_app rfl Try.underlying29 HI.out HZ0.out HZ1.out HZ2.out (.tmp 43) (.tmp 52) rfl (base := wr.heap.size + 1) (xs := [a2, a3].take 0) (ys := [a2]) rfl rfl HOA.out rfl HSRC.out (by simp) (by simp; omega) ?_
            intro E2 f2 w4 ho4 hg4 hat4
            clear hat4
            have hE4 := (hg4.block wr.heap.size (by simp; omega) (fun e => by have := HROW.out _ e.symm; omega)).trans HEA.out
            have hb4 : Below wr.heap.size wr w4 := (HB5.out.trans (HBA.out.mono (Nat.le_of_lt hlt5))).grown hg4 (by simp; omega) (fun q hq => by have := HROW.out q hq; omega)
            obtain ⟨g1, g2, g3⟩ := cells3 hE4
            have g4 := free3 hE4 2
            have HE4 := Lib.hid hE4
            have HB4 := Lib.hid hb4
            have HO4 := Lib.hid ho4
            have hlt4 : wr.heap.size < w4.heap.size := (Array.getElem?_eq_some_iff.1 hE4).1
            clear hE4 hb4 ho4 hg4
            have cq4 := (HB4.out.cell (p := ad.add p2) (by rw [block_add]; omega)).trans c2
            refine hK.out _ _ (cq4) (fun hHeld => ?_)
            clear hK K
            try simp only [Act.put, List.getElem_toArray, List.getElem_cons_zero, List.getElem_cons_succ, List.setIfInBounds_toArray, List.set_cons_zero, List.set_cons_succ]
            refine wpAnyH_take (i := 12) (v := ?_) rfl (by kernel_rfl) (by kernel_rfl) (by kernel_rfl) (fun _ _ _ h => h) (Or.inl ⟨by rfl, ?_⟩) hHeld ?_
            rotate_left
            · intro w hSw; (try dsimp only at hSw); go_simp <;> with_reducible rfl
            try simp only [Act.put, List.getElem_toArray, List.getElem_cons_zero, List.getElem_cons_succ, List.setIfInBounds_toArray, List.set_cons_zero, List.set_cons_succ]
            refine wpAnyH_ready (rs := [13]) (by kernel_rfl) (by simp) ?_
            refine AllReadyH.cons rfl (fun K hK => ?_) AllReadyH.nil
            go_simp
            refine hK.out _ _ ((World.cell?_setCell_far _ _ _ _ (by rw [block_add]; simp; omega)).trans cq4) (fun hHeld => ?_)
            clear hK K
            try simp only [Act.put, List.getElem_toArray, List.getElem_cons_zero, List.getElem_cons_succ, List.setIfInBounds_toArray, List.set_cons_zero, List.set_cons_succ]
            refine wpAnyH_done (by kernel_rfl) ?_ _
            go_wp2
            go_roundw
            case rel => exact ⟨1, E2, f2, by omega, by go_num, heap_set2 HE4.out, HO4.out.grown (grown_put (World.grownBy.refl _ _) 2 _) (by omega), HB4.out.setCell (p := ⟨wr.heap.size, 2, none⟩) (Nat.le_refl _) _⟩
            case measure => simp [intOf]
          · go_simp
            refine hK.out _ _ ((HBA.out.mono (Nat.le_trans hsz (Nat.le_of_lt hlt5))).cell (p := ad.add p2) (by rw [block_add]; exact had) |>.trans cq) (fun hHeld => ?_)
            clear hK K
            try simp only [Act.put, List.getElem_toArray, List.getElem_cons_zero, List.getElem_cons_succ, List.setIfInBounds_toArray, List.set_cons_zero, List.set_cons_succ]
            refine wpAnyH_ready (rs := [1]) (by kernel_rfl) (by simp) ?_
            refine AllReadyH.cons rfl (fun K hK => ?_) AllReadyH.nil
            go_simp
            refine hK.out _ _ ((HBA.out.mono (Nat.le_trans hsz (Nat.le_of_lt hlt5))).cell (p := ad.add p2) (by rw [block_add]; exact had) |>.trans cq) (fun hHeld => ?_)
            clear hK K
            try simp only [Act.put, List.getElem_toArray, List.getElem_cons_zero, List.getElem_cons_succ, List.setIfInBounds_toArray, List.set_cons_zero, List.set_cons_succ]
            refine wpAnyH_ready (rs := [11]) (by kernel_rfl) (by simp) ?_
            refine AllReadyH.cons rfl (fun K hK => ?_) AllReadyH.nil
            refine step_app rfl Try.underlying29 HI.out HZ0.out HZ1.out HZ2.out (.tmp 43) (.tmp 52) rfl (base := wr.heap.size + 1) (xs := [a2, a3].take 0) (ys := [a2]) rfl rfl HOA.out rfl HSRC.out (by simp) (by simp; omega) ?_
            intro E2 f2 w4 ho4 hg4 hat4
            clear hat4
            have hE4 := (hg4.block wr.heap.size (by simp; omega) (fun e => by have := HROW.out _ e.symm; omega)).trans HEA.out
            have hb4 : Below wr.heap.size wr w4 := (HB5.out.trans (HBA.out.mono (Nat.le_of_lt hlt5))).grown hg4 (by simp; omega) (fun q hq => by have := HROW.out q hq; omega)
            obtain ⟨g1, g2, g3⟩ := cells3 hE4
            have g4 := free3 hE4 2
            have HE4 := Lib.hid hE4
            have HB4 := Lib.hid hb4
            have HO4 := Lib.hid ho4
            have hlt4 : wr.heap.size < w4.heap.size := (Array.getElem?_eq_some_iff.1 hE4).1
            clear hE4 hb4 ho4 hg4
            have cq4 := (HB4.out.cell (p := ad.add p2) (by rw [block_add]; omega)).trans c2
            refine hK.out _ _ (cq4) (fun hHeld => ?_)
            clear hK K
            try simp only [Act.put, List.getElem_toArray, List.getElem_cons_zero, List.getElem_cons_succ, List.setIfInBounds_toArray, List.set_cons_zero, List.set_cons_succ]
            refine wpAnyH_take (i := 12) (v := ?_) rfl (by kernel_rfl) (by kernel_rfl) (by kernel_rfl) (fun _ _ _ h => h) (Or.inl ⟨by rfl, ?_⟩) hHeld ?_
            rotate_left
            · intro w hSw; (try dsimp only at hSw); go_simp <;> with_reducible rfl
            try simp only [Act.put, List.getElem_toArray, List.getElem_cons_zero, List.getElem_cons_succ, List.setIfInBounds_toArray, List.set_cons_zero, List.set_cons_succ]
            refine wpAnyH_ready (rs := [13]) (by kernel_rfl) (by simp) ?_
            refine AllReadyH.cons rfl (fun K hK => ?_) AllReadyH.nil
            go_simp
            refine hK.out _ _ ((World.cell?_setCell_far _ _ _ _ (by rw [block_add]; simp; omega)).trans cq4) (fun hHeld => ?_)
            clear hK K
            try simp only [Act.put, List.getElem_toArray, List.getElem_cons_zero, List.getElem_cons_succ, List.setIfInBounds_toArray, List.set_cons_zero, List.set_cons_succ]
            refine wpAnyH_done (by kernel_rfl) ?_ _
            go_wp2
            go_roundw
            case rel => exact ⟨1, E2, f2, by omega, by go_num, heap_set2 HE4.out, HO4.out.grown (grown_put (World.grownBy.refl _ _) 2 _) (by omega), HB4.out.setCell (p := ⟨wr.heap.size, 2, none⟩) (Nat.le_refl _) _⟩
            case measure => simp [intOf]
        · have cq := (hb5w.cell (p := ad.add p3) (by rw [block_add]; exact had)).trans c3
          have hBa : Below w5.heap.size w5 (w5.alloc (.cells #[.int .i64 a3] 3 (0, 0))).drew := ((Below.refl _ _).alloc (Nat.le_refl _) _).drew
          have e3d : w5.drew.cell? ⟨wr.heap.size, 2, none⟩ = some (.slice A5 1 c5) := e3
          have e3a : (w5.alloc (.cells #[.int .i64 a3] 3 (0, 0))).drew.cell? ⟨wr.heap.size, 2, none⟩ = some (.slice A5 1 c5) := (hBa.cell (p := ⟨wr.heap.size, 2, none⟩) hlt5).trans e3
          have hEa : (w5.alloc (.cells #[.int .i64 a3] 3 (0, 0))).drew.heap[wr.heap.size]? = some (.cells #[.int .i64 a0, .int .i64 a1, .slice A5 1 c5] 41 (0, 0)) := (hBa.block _ hlt5).trans hE
          have hoa := (hoi.alloc (.cells #[.int .i64 a3] 3 (0, 0))).drewN 1
          have hsrc : SrcI (w5.alloc (.cells #[.int .i64 a3] 3 (0, 0))).drew (some ⟨w5.heap.size, 0, none⟩) 1 1 [a3] := SrcI.one_of (hp_drew (hp_new w5 _))
          have HEA := Lib.hid hEa
          have HOA := Lib.hid hoa
          have HSRC := Lib.hid hsrc
          have HBA := Lib.hid hBa
          have HB5 := Lib.hid hb5
          have HROW := Lib.hid hrow
          have HHO := Lib.hid ho
          have HHB := Lib.hid hb
          clear hE hoi hEa hoa hsrc hBa hb5 hrow ho hb
          go_wp2_with fail
          refine wp_region_held_drew (S := fun W => W.cell? (ad.add p3) = some (.int .i64 a3)) (by kernel_rfl) (cq) (fun hHeld => ?_)
          refine wpAnyH_take (i := 0) (v := ?_) rfl (by kernel_rfl) (by kernel_rfl) (by kernel_rfl) (fun _ _ _ h => h) (Or.inl ⟨by rfl, ?_⟩) hHeld ?_
          rotate_left
          · intro w hSw; (try dsimp only at hSw); go_simp <;> with_reducible rfl
          try simp only [Act.put, List.getElem_toArray, List.getElem_cons_zero, List.setIfInBounds_toArray, List.set_cons_zero, List.set_cons_succ]
          refine wpAnyH_take (i := 2) (v := ?_) rfl (by kernel_rfl) (by kernel_rfl) (by kernel_rfl) (fun _ _ _ h => h) (Or.inl ⟨by rfl, ?_⟩) hHeld ?_
          rotate_left
          · intro w hSw; (try dsimp only at hSw); go_simp <;> with_reducible rfl
          try simp only [Act.put, List.getElem_toArray, List.getElem_cons_zero, List.getElem_cons_succ, List.setIfInBounds_toArray, List.set_cons_zero, List.set_cons_succ]
          refine wpAnyH_take (i := 3) (v := ?_) rfl (by kernel_rfl) (by kernel_rfl) (by kernel_rfl) (fun _ _ _ h => h) (Or.inl ⟨by rfl, ?_⟩) hHeld ?_
          rotate_left
          · intro w hSw; (try dsimp only at hSw); go_simp <;> with_reducible rfl
          try simp only [Act.put, List.getElem_toArray, List.getElem_cons_zero, List.getElem_cons_succ, List.setIfInBounds_toArray, List.set_cons_zero, List.set_cons_succ]
          refine wpAnyH_take (i := 4) (v := ?_) rfl (by kernel_rfl) (by kernel_rfl) (by kernel_rfl) (fun _ _ _ h => h) (Or.inl ⟨by rfl, ?_⟩) hHeld ?_
          rotate_left
          · intro w hSw; (try dsimp only at hSw); go_simp <;> with_reducible rfl
          try simp only [Act.put, List.getElem_toArray, List.getElem_cons_zero, List.getElem_cons_succ, List.setIfInBounds_toArray, List.set_cons_zero, List.set_cons_succ]
          refine wpAnyH_take (i := 5) (v := ?_) rfl (by kernel_rfl) (by kernel_rfl) (by kernel_rfl) (fun _ _ _ h => h) (Or.inl ⟨by rfl, ?_⟩) hHeld ?_
          rotate_left
          · intro w hSw; (try dsimp only at hSw); go_simp <;> with_reducible rfl
          try simp only [Act.put, List.getElem_toArray, List.getElem_cons_zero, List.getElem_cons_succ, List.setIfInBounds_toArray, List.set_cons_zero, List.set_cons_succ]
          refine wpAnyH_take (i := 6) (v := ?_) rfl (by kernel_rfl) (by kernel_rfl) (by kernel_rfl) (fun _ _ _ h => h) (Or.inl ⟨by rfl, ?_⟩) hHeld ?_
          rotate_left
          · intro w hSw; (try dsimp only at hSw); go_simp <;> with_reducible rfl
          try simp only [Act.put, List.getElem_toArray, List.getElem_cons_zero, List.getElem_cons_succ, List.setIfInBounds_toArray, List.set_cons_zero, List.set_cons_succ]
          refine wpAnyH_take (i := 7) (v := ?_) rfl (by kernel_rfl) (by kernel_rfl) (by kernel_rfl) (fun _ _ _ h => h) (Or.inl ⟨by rfl, ?_⟩) hHeld ?_
          rotate_left
          · intro w hSw; (try dsimp only at hSw); go_simp <;> with_reducible rfl
          try simp only [Act.put, List.getElem_toArray, List.getElem_cons_zero, List.getElem_cons_succ, List.setIfInBounds_toArray, List.set_cons_zero, List.set_cons_succ]
          refine wpAnyH_take (i := 8) (v := ?_) rfl (by kernel_rfl) (by kernel_rfl) (by kernel_rfl) (fun _ _ _ h => h) (Or.inl ⟨by rfl, ?_⟩) hHeld ?_
          rotate_left
          · intro w hSw; (try dsimp only at hSw); go_simp <;> with_reducible rfl
          try simp only [Act.put, List.getElem_toArray, List.getElem_cons_zero, List.getElem_cons_succ, List.setIfInBounds_toArray, List.set_cons_zero, List.set_cons_succ]
          refine wpAnyH_take (i := 9) (v := ?_) rfl (by kernel_rfl) (by kernel_rfl) (by kernel_rfl) (fun _ _ _ h => h) (Or.inl ⟨by rfl, ?_⟩) hHeld ?_
          rotate_left
          · intro w hSw; (try dsimp only at hSw); go_simp <;> with_reducible rfl
          try simp only [Act.put, List.getElem_toArray, List.getElem_cons_zero, List.getElem_cons_succ, List.setIfInBounds_toArray, List.set_cons_zero, List.set_cons_succ]
          refine wpAnyH_ready (rs := [1, 10]) (by kernel_rfl) (by simp) ?_
          refine AllReadyH.cons rfl (fun K hK => ?_) (AllReadyH.cons rfl (fun K hK => ?_) AllReadyH.nil)
          · go_simp
            refine hK.out _ _ (cq) (fun hHeld => ?_)
            clear hK K
            try simp only [Act.put, List.getElem_toArray, List.getElem_cons_zero, List.getElem_cons_succ, List.setIfInBounds_toArray, List.set_cons_zero, List.set_cons_succ]
            refine wpAnyH_ready (rs := [10]) (by kernel_rfl) (by simp) ?_
            refine AllReadyH.cons rfl (fun K hK => ?_) AllReadyH.nil
            go_simp
            refine hK.out _ _ ((HBA.out.mono (Nat.le_trans hsz (Nat.le_of_lt hlt5))).cell (p := ad.add p3) (by rw [block_add]; exact had) |>.trans cq) (fun hHeld => ?_)
            clear hK K
            try simp only [Act.put, List.getElem_toArray, List.getElem_cons_zero, List.getElem_cons_succ, List.setIfInBounds_toArray, List.set_cons_zero, List.set_cons_succ]
            refine wpAnyH_ready (rs := [11]) (by kernel_rfl) (by simp) ?_
            refine AllReadyH.cons rfl (fun K hK => ?_) AllReadyH.nil
            refine step_app rfl Try.underlying29 HI.out HZ0.out HZ1.out HZ2.out (.tmp 43) (.tmp 52) rfl (base := wr.heap.size + 1) (xs := [a2, a3].take 1) (ys := [a3]) rfl rfl HOA.out rfl HSRC.out (by simp) (by simp; omega) ?_
            intro E2 f2 w4 ho4 hg4 hat4
            clear hat4
            have hE4 := (hg4.block wr.heap.size (by simp; omega) (fun e => by have := HROW.out _ e.symm; omega)).trans HEA.out
            have hb4 : Below wr.heap.size wr w4 := (HB5.out.trans (HBA.out.mono (Nat.le_of_lt hlt5))).grown hg4 (by simp; omega) (fun q hq => by have := HROW.out q hq; omega)
            obtain ⟨g1, g2, g3⟩ := cells3 hE4
            have g4 := free3 hE4 2
            have HE4 := Lib.hid hE4
            have HB4 := Lib.hid hb4
            have HO4 := Lib.hid ho4
            have hlt4 : wr.heap.size < w4.heap.size := (Array.getElem?_eq_some_iff.1 hE4).1
            clear hE4 hb4 ho4 hg4
            have cq4 := (HB4.out.cell (p := ad.add p3) (by rw [block_add]; omega)).trans c3
            refine hK.out _ _ (cq4) (fun hHeld => ?_)
            clear hK K
            try simp only [Act.put, List.getElem_toArray, List.getElem_cons_zero, List.getElem_cons_succ, List.setIfInBounds_toArray, List.set_cons_zero, List.set_cons_succ]
            refine wpAnyH_take (i := 12) (v := ?_) rfl (by kernel_rfl) (by kernel_rfl) (by kernel_rfl) (fun _ _ _ h => h) (Or.inl ⟨by rfl, ?_⟩) hHeld ?_
            rotate_left
            · intro w hSw; (try dsimp only at hSw); go_simp <;> with_reducible rfl
            try simp only [Act.put, List.getElem_toArray, List.getElem_cons_zero, List.getElem_cons_succ, List.setIfInBounds_toArray, List.set_cons_zero, List.set_cons_succ]
            refine wpAnyH_ready (rs := [13]) (by kernel_rfl) (by simp) ?_
            refine AllReadyH.cons rfl (fun K hK => ?_) AllReadyH.nil
            go_simp
            refine hK.out _ _ ((World.cell?_setCell_far _ _ _ _ (by rw [block_add]; simp; omega)).trans cq4) (fun hHeld => ?_)
            clear hK K
            try simp only [Act.put, List.getElem_toArray, List.getElem_cons_zero, List.getElem_cons_succ, List.setIfInBounds_toArray, List.set_cons_zero, List.set_cons_succ]
            refine wpAnyH_done (by kernel_rfl) ?_ _
            go_wp2
            go_roundw
            case rel => exact ⟨2, E2, f2, by omega, by go_num, heap_set2 HE4.out, HO4.out.grown (grown_put (World.grownBy.refl _ _) 2 _) (by omega), HB4.out.setCell (p := ⟨wr.heap.size, 2, none⟩) (Nat.le_refl _) _⟩
            case measure => simp [intOf]
          · go_simp
            refine hK.out _ _ ((HBA.out.mono (Nat.le_trans hsz (Nat.le_of_lt hlt5))).cell (p := ad.add p3) (by rw [block_add]; exact had) |>.trans cq) (fun hHeld => ?_)
            clear hK K
            try simp only [Act.put, List.getElem_toArray, List.getElem_cons_zero, List.getElem_cons_succ, List.setIfInBounds_toArray, List.set_cons_zero, List.set_cons_succ]
            refine wpAnyH_ready (rs := [1]) (by kernel_rfl) (by simp) ?_
            refine AllReadyH.cons rfl (fun K hK => ?_) AllReadyH.nil
            go_simp
            refine hK.out _ _ ((HBA.out.mono (Nat.le_trans hsz (Nat.le_of_lt hlt5))).cell (p := ad.add p3) (by rw [block_add]; exact had) |>.trans cq) (fun hHeld => ?_)
            clear hK K
            try simp only [Act.put, List.getElem_toArray, List.getElem_cons_zero, List.getElem_cons_succ, List.setIfInBounds_toArray, List.set_cons_zero, List.set_cons_succ]
            refine wpAnyH_ready (rs := [11]) (by kernel_rfl) (by simp) ?_
            refine AllReadyH.cons rfl (fun K hK => ?_) AllReadyH.nil
            refine step_app rfl Try.underlying29 HI.out HZ0.out HZ1.out HZ2.out (.tmp 43) (.tmp 52) rfl (base := wr.heap.size + 1) (xs := [a2, a3].take 1) (ys := [a3]) rfl rfl HOA.out rfl HSRC.out (by simp) (by simp; omega) ?_
            intro E2 f2 w4 ho4 hg4 hat4
            clear hat4
            have hE4 := (hg4.block wr.heap.size (by simp; omega) (fun e => by have := HROW.out _ e.symm; omega)).trans HEA.out
            have hb4 : Below wr.heap.size wr w4 := (HB5.out.trans (HBA.out.mono (Nat.le_of_lt hlt5))).grown hg4 (by simp; omega) (fun q hq => by have := HROW.out q hq; omega)
            obtain ⟨g1, g2, g3⟩ := cells3 hE4
            have g4 := free3 hE4 2
            have HE4 := Lib.hid hE4
            have HB4 := Lib.hid hb4
            have HO4 := Lib.hid ho4
            have hlt4 : wr.heap.size < w4.heap.size := (Array.getElem?_eq_some_iff.1 hE4).1
            clear hE4 hb4 ho4 hg4
            have cq4 := (HB4.out.cell (p := ad.add p3) (by rw [block_add]; omega)).trans c3
            refine hK.out _ _ (cq4) (fun hHeld => ?_)
            clear hK K
            try simp only [Act.put, List.getElem_toArray, List.getElem_cons_zero, List.getElem_cons_succ, List.setIfInBounds_toArray, List.set_cons_zero, List.set_cons_succ]
            refine wpAnyH_take (i := 12) (v := ?_) rfl (by kernel_rfl) (by kernel_rfl) (by kernel_rfl) (fun _ _ _ h => h) (Or.inl ⟨by rfl, ?_⟩) hHeld ?_
            rotate_left
            · intro w hSw; (try dsimp only at hSw); go_simp <;> with_reducible rfl
            try simp only [Act.put, List.getElem_toArray, List.getElem_cons_zero, List.getElem_cons_succ, List.setIfInBounds_toArray, List.set_cons_zero, List.set_cons_succ]
            refine wpAnyH_ready (rs := [13]) (by kernel_rfl) (by simp) ?_
            refine AllReadyH.cons rfl (fun K hK => ?_) AllReadyH.nil
            go_simp
            refine hK.out _ _ ((World.cell?_setCell_far _ _ _ _ (by rw [block_add]; simp; omega)).trans cq4) (fun hHeld => ?_)
            clear hK K
            try simp only [Act.put, List.getElem_toArray, List.getElem_cons_zero, List.getElem_cons_succ, List.setIfInBounds_toArray, List.set_cons_zero, List.set_cons_succ]
            refine wpAnyH_done (by kernel_rfl) ?_ _
            go_wp2
            go_roundw
            case rel => exact ⟨2, E2, f2, by omega, by go_num, heap_set2 HE4.out, HO4.out.grown (grown_put (World.grownBy.refl _ _) 2 _) (by omega), HB4.out.setCell (p := ⟨wr.heap.size, 2, none⟩) (Nat.le_refl _) _⟩
            case measure => simp [intOf]
        · obtain ⟨b5, rfl⟩ := hoi.some_ (by simp)
          have hbb := hrow b5 rfl
          have hB6 : Below wr.heap.size wr (w5.alloc (.cells #[.int .i64 a0, .int .i64 a1, .slice (some ⟨b5, 0, none⟩) 2 c5] 41 (0, 0))) := hb5.alloc (Nat.le_of_lt hlt5) _
          have hoi2 : OwnI w5 wr.heap.size (some ⟨b5, 0, none⟩) c5 [a2, a3] := OwnI.base hoi (by omega)
          clear hE hoi hrow
          go_wp2_with (at_builtin
                       refine list_appN rfl Try.underlying25 HJ.out HY0.out HY1.out HY2.out (.tmp 55) (.tmp 57) rfl (w0 := wr) (base := w.heap.size) (xs := idTo xs k) (y := (a0, a1, [a2, a3])) rfl HL.out.symm ho hsz hB6 rfl (by omega) (hoi2.alloc _) (alloc_top w5 _) (by rw [HL.out]; omega) ?_
                       intro A2 c2' w4 ho4 hg4 hat4
                       have hB7 : Below w.heap.size wr w4 := (hB6.mono hsz).grown hg4 (by simp; omega) (fun q hq => (ho.rowBase q hq).1)
                       clear hat4)
          refine ⟨⟨k + 1, A2, c2', by omega, by go_num, by rw [HL.out], by rw [HS.out, HD.out]; exact ho4, hb.trans hB7⟩, ?_⟩
          simp only [intOf]; omega
    · have : k = xs.length := by omega
      subst this
      clear h
      go_wp2
      go_ret2
      exact ⟨⟨A', c', by rw [H.out, H2.out, HLI.out]; rfl, by rw [H2.out]; exact ho⟩, hb⟩
end Go.Proofs.Ytmhneigglmingaa
