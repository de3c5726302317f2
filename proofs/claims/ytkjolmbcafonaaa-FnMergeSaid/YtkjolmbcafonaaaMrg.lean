/- Walks: LeasesMerge of the implementation and of the reference. -/
import Derived.Test.YtkjolmbcafonaaaLeaI
import Derived.Test.YtkjolmbcafonaaaClone
namespace Go.Proofs.Ytkjolmbcafonaaa
open Go.RowKit
set_option maxHeartbeats 2000000
set_option linter.unusedVariables false
def mgL (xs : List Tri) : List Tri := if lval xs = true then mrg xs else []
theorem mg_le (xs : List Tri) : (mgL xs).length ≤ 12 := by
  unfold mgL; split
  · next h => exact (lval_len (mrg_valid h)).2
  · simp
theorem mrgTo_end {xs : List Tri} {k m : Nat} {x y : Tri} (hx : xs[k]? = some x) (hl : (mrgTo xs k).length = m + 1) (hy : (mrgTo xs k)[m]? = some y) :
    (y.2 = x.2 → mrgTo xs (k + 1) = (mrgTo xs k).set m (x.1, y.2)) ∧ (¬ y.2 = x.2 → mrgTo xs (k + 1) = mrgTo xs k ++ [x]) := by
  rw [mrgTo_succ hx]
  generalize mrgTo xs k = L at *
  rcases List.eq_nil_or_concat L with h0 | ⟨d, z, h0⟩
  · subst h0; simp at hl
  · rw [List.concat_eq_append] at h0
    subst h0
    have hd : d.length = m := by simpa using hl
    subst hd
    rw [List.getElem?_append_right (Nat.le_refl _), Nat.sub_self] at hy
    simp at hy
    subst hy
    refine ⟨fun h => ?_, fun h => mput_other h⟩
    rw [mput_same h, List.set_append_right _ _ (Nat.le_refl _), Nat.sub_self, List.set_cons_zero]
theorem mrgTo_first {xs : List Tri} {k : Nat} {x : Tri} (hx : xs[k]? = some x) (hl : (mrgTo xs k).length = 0) : mrgTo xs (k + 1) = mrgTo xs k ++ [x] := by
  rw [mrgTo_succ hx, List.eq_nil_of_length_eq_zero hl]; rfl
theorem pair_eq {a b c d : Int} (h1 : a = c) (h2 : b = d) : (a, b) = (c, d) := by rw [h1, h2]
theorem below_more {B : Nat} {w w' : World} (h : Below B w w') (n : Nat) : Below B w (w'.drewN n) := ⟨h.os, h.tape, h.output, h.size, h.block⟩
theorem hp_drewNT {w : World} {b n : Nat} {x : Option Obj} (h : w.heap[b]? = x) : (w.drewN n).heap[b]? = x := h
theorem hp_newT (w : World) (o : Obj) : (w.alloc o).heap[w.heap.size]? = some o := heap_alloc_new w o
theorem hp_new1T (w : World) (a o : Obj) : ((w.alloc a).alloc o).heap[w.heap.size + 1]? = some o := heap_alloc2_new w a o
theorem hp_oldT {w : World} {b : Nat} {x : Obj} (o : Obj) (h : w.heap[b]? = some x) : (w.alloc o).heap[b]? = some x := (Below.heap_alloc w o b (lt_of_block h)).trans h
theorem hp_drewT {w : World} {b : Nat} {x : Option Obj} (h : w.heap[b]? = x) : w.drew.heap[b]? = x := h
theorem mg_impl (B : Nat) (A : Option Addr) (c : Nat) (xs : List Tri) (hl : xs.length ≤ c) (hc : c ≤ maxLen) (w : World) (hB : B ≤ w.heap.size) (h : TrisAt w B A xs) :
    Calls Try.prog 9 #[.slice A xs.length c] w (MadeT w (mgL xs)) := by
  have HA := Lib.hid (lv_impl B A c xs hl hc w hB h)
  cases hv : lval xs
  · have HL := Lib.hid (show mgL xs = [] from by unfold mgL; rw [hv]; rfl)
    clear h
    go_enter Try.func9, Try.ntmps9
    go_wp2_with fail
    refine (HA.out).mono ?_; rw [hv]; rintro e w1 ⟨rfl, hb⟩
    go_wp2
    go_ret
    rw [HL.out]
    exact ⟨none, 0, rfl, OwnT.none_ _ _, hb⟩
  have HL := Lib.hid (show mgL xs = mrg xs from by unfold mgL; rw [if_pos hv])
  obtain ⟨hl1, hl2⟩ := lval_len hv
  obtain ⟨-, hva, hvb⟩ := lval_iff.1 hv
  have HLE := Lib.hid (fun k (hk : k ≤ xs.length) => (mrg_at hva hvb k hk).len)
  clear hva hvb
  obtain ⟨i0, hi, hz0, hz1, hz2⟩ := info_parts triInfo
  have HI := Lib.hid hi
  have HZ0 := Lib.hid hz0
  have HZ1 := Lib.hid hz1
  have HZ2 := Lib.hid hz2
  clear hi hz0 hz1 hz2
  go_enter Try.func9, Try.ntmps9
  go_wp2_with fail
  refine (HA.out).mono ?_; rw [hv]; rintro e w1 ⟨rfl, hb1⟩
  clear HA
  have HO := Lib.hid (OwnT.none_ w1 w.heap.size)
  go_wp2_with fail
  go_loopw [3, 12] (fun o i wr => ∃ (k n : Nat) (A2 : Option Addr) (c2 : Nat), k ≤ xs.length ∧ i = .int .i64 k ∧ o = .slice A2 n c2 ∧ n = (mrgTo xs k).length ∧ OwnT wr w.heap.size A2 c2 (mrgTo xs k) ∧ Below w.heap.size w wr) (fun _ i _ => xs.length - (intOf i).toNat)
  case atStart => exact ⟨0, 0, none, 0, Nat.zero_le _, rfl, rfl, rfl, HO.out, hb1⟩
  case round =>
    obtain ⟨k, n, A2, c2, hk1, rfl, rfl, hn, ho, hb⟩ := hrel
    clear HO hb1
    have hle := HLE.out k hk1
    rw [← hn] at hle
    by_cases hlt : k < xs.length
    · obtain ⟨b, off, rfl⟩ := h.some_ (by omega)
      obtain ⟨x, hx⟩ : ∃ x, xs[k]? = some x := ⟨_, List.getElem?_eq_getElem hlt⟩
      obtain ⟨x1, x2, x3⟩ := x
      obtain ⟨c1', c2', c3'⟩ := (h.below (hb.mono hB)).at_ hx
      simp only at c1' c2' c3'
      have hsz := hb.size
      rcases n with _ | m
      · have HN := Lib.hid (mrgTo_first hx hn.symm)
        have HNN := Lib.hid hn
        clear h hx hn hle
        go_wp2_with fail
        go_quiet (fail)
        go_wp2_with (at_builtin
                     refine list_appT rfl Try.underlying23 HI.out HZ0.out HZ1.out HZ2.out (.tmp 49) (.tmp 51) rfl (base := w.heap.size) (xs := mrgTo xs k) (ys := [(x1, x2, x3)]) rfl HNN.out ?_ rfl ?_ ?_ ?_ ?_
                     · (first | exact ho | exact ho.alloc _ | exact (ho.alloc _).alloc _ | exact ((ho.alloc _).alloc _).drewN _ | exact (ho.alloc _).drewN _)
                     · exact SrcT.one_of (by repeat (first | exact hp_newT _ _ | exact hp_new1T _ _ _ | (with_reducible refine hp_drewT ?_) | (with_reducible refine hp_drewNT ?_) | (with_reducible refine hp_oldT _ ?_)))
                     · (rw [← HNN.out]; simp <;> omega)
                     · (simp <;> omega)
                     intro A3 c3 w3 ho3 hg3 hat
                     have hb3 : Below w.heap.size w w3 := Below.grown (by repeat (first | exact hb | (refine below_more ?_ _) | (refine Below.drew ?_) | (refine Below.alloc ?_ (by first | exact hsz | (simp; omega)) _))) hg3 (by simp <;> omega) ho.row
                     have hn3 : 0 + 1 = (mrgTo xs k ++ [(x1, x2, x3)]).length := by rw [List.length_append, ← HNN.out]; rfl
                     rw [← HN.out] at ho3 hn3)
        go_roundw
        case rel => exact ⟨k + 1, 0 + 1, A3, c3, by omega, by go_num, by rw [hn3, HN.out]; (simp <;> exact List.eq_nil_of_length_eq_zero HNN.out.symm), hn3, ho3, hb3⟩
        case measure => simp [intOf]; omega
      · obtain ⟨y, hy⟩ : ∃ y, (mrgTo xs k)[m]? = some y := ⟨_, List.getElem?_eq_getElem (by omega)⟩
        have HME := Lib.hid (mrgTo_end hx hn.symm hy)
        obtain ⟨y1, y2, y3⟩ := y
        obtain ⟨g, rfl⟩ := ho.some_ (by omega)
        obtain ⟨d1, d2, d3⟩ := ho.at_ hy
        simp only at d1 d2 d3
        have f1 := ho.free (m * 3)
        have hgl : g < wr.heap.size := World.block_lt_of_cell? wr _ d1
        have hgb : w.heap.size ≤ g := ho.row g rfl
        have hwm : IntKind.i64.wrap (m : Int) = (m : Int) := by rw [IntKind.wrap_i64]; omega
        have hm1 : (m : Int) < (m : Int) + 1 := by omega
        have hm0 : (0 : Int) < (m : Int) + 1 := by omega
        have HP := Lib.hid (ho.put0 hy x1)
        have HP2 := Lib.hid (fun o => (OwnT.alloc ho o).put0 hy x1)
        have HNN := Lib.hid hn
        clear h hx hy hn
        by_cases e1 : y2 = x2
        · have e1b : (y2 == x2) = true := by simpa using e1
          by_cases e2 : y3 = x3
          · have e2b : (y3 == x3) = true := by simpa using e2
            have HN := Lib.hid (HME.out.1 (pair_eq e1 e2))
            have HNL := Lib.hid (show m + 1 = (mrgTo xs (k + 1)).length from by rw [HN.out, List.length_set]; exact HNN.out)
            have HO := Lib.hid ho
            have HB := Lib.hid hb
            clear e1 e2 ho hb HME
            go_wp2_with fail
            go_quiet (fail)
            go_wp2
            go_roundw
            case rel =>
              refine ⟨k + 1, m + 1, _, c2, by omega, by go_num, rfl, HNL.out, ?_, ?_⟩
              · rw [HN.out]
                first | exact HP.out | exact HP.out.drewN 1 | exact (HP.out.alloc _) | exact (HP.out.alloc _).drewN 1 | exact HP2.out _ | exact (HP2.out _).drewN _ | exact HP.out.drewN _ | exact (HP.out.alloc _).drewN _
              · repeat (first | exact HB.out | (refine below_more ?_ _) | (refine Below.drew ?_) | (refine Below.alloc ?_ (by first | exact hsz | (simp; omega)) _) | (refine Below.setCell (p := ⟨g, m * 3, none⟩) ?_ hgb _))
            case measure => simp [intOf]; omega
          · have e2b : (y3 == x3) = false := by rw [beq_eq_false_iff_ne]; exact e2
            have HN := Lib.hid (HME.out.2 (fun e => e2 (congrArg Prod.snd e)))
            clear HME HP HP2 e1 e2
            go_wp2_with fail
            go_quiet (fail)
            go_wp2_with (at_builtin
                         refine list_appT rfl Try.underlying23 HI.out HZ0.out HZ1.out HZ2.out (.tmp 49) (.tmp 51) rfl (base := w.heap.size) (xs := mrgTo xs k) (ys := [(x1, x2, x3)]) rfl HNN.out ?_ rfl ?_ ?_ ?_ ?_
                         · (first | exact ho | exact ho.alloc _ | exact (ho.alloc _).alloc _ | exact ((ho.alloc _).alloc _).drewN _ | exact (ho.alloc _).drewN _)
                         · exact SrcT.one_of (by repeat (first | exact hp_newT _ _ | exact hp_new1T _ _ _ | (with_reducible refine hp_drewT ?_) | (with_reducible refine hp_drewNT ?_) | (with_reducible refine hp_oldT _ ?_)))
                         · (rw [← HNN.out]; simp <;> omega)
                         · (simp <;> omega)
                         intro A3 c3 w3 ho3 hg3 hat
                         have hb3 : Below w.heap.size w w3 := Below.grown (by repeat (first | exact hb | (refine below_more ?_ _) | (refine Below.drew ?_) | (refine Below.alloc ?_ (by first | exact hsz | (simp; omega)) _))) hg3 (by simp <;> omega) ho.row
                         have hn3 : m + 1 + 1 = (mrgTo xs k ++ [(x1, x2, x3)]).length := by rw [List.length_append, ← HNN.out]; rfl
                         rw [← HN.out] at ho3 hn3)
            go_roundw
            case rel => exact ⟨k + 1, m + 1 + 1, A3, c3, by omega, by go_num, by rw [hn3, HN.out]; (simp <;> exact List.eq_nil_of_length_eq_zero HNN.out.symm), hn3, ho3, hb3⟩
            case measure => simp [intOf]; omega
        · have e1b : (y2 == x2) = false := by rw [beq_eq_false_iff_ne]; exact e1
          have HN := Lib.hid (HME.out.2 (fun e => e1 (congrArg Prod.fst e)))
          clear HME HP HP2 e1
          go_wp2_with fail
          go_quiet (fail)
          go_wp2_with (at_builtin
                       refine list_appT rfl Try.underlying23 HI.out HZ0.out HZ1.out HZ2.out (.tmp 49) (.tmp 51) rfl (base := w.heap.size) (xs := mrgTo xs k) (ys := [(x1, x2, x3)]) rfl HNN.out ?_ rfl ?_ ?_ ?_ ?_
                       · (first | exact ho | exact ho.alloc _ | exact (ho.alloc _).alloc _ | exact ((ho.alloc _).alloc _).drewN _ | exact (ho.alloc _).drewN _)
                       · exact SrcT.one_of (by repeat (first | exact hp_newT _ _ | exact hp_new1T _ _ _ | (with_reducible refine hp_drewT ?_) | (with_reducible refine hp_drewNT ?_) | (with_reducible refine hp_oldT _ ?_)))
                       · (rw [← HNN.out]; simp <;> omega)
                       · (simp <;> omega)
                       intro A3 c3 w3 ho3 hg3 hat
                       have hb3 : Below w.heap.size w w3 := Below.grown (by repeat (first | exact hb | (refine below_more ?_ _) | (refine Below.drew ?_) | (refine Below.alloc ?_ (by first | exact hsz | (simp; omega)) _))) hg3 (by simp <;> omega) ho.row
                       have hn3 : m + 1 + 1 = (mrgTo xs k ++ [(x1, x2, x3)]).length := by rw [List.length_append, ← HNN.out]; rfl
                       rw [← HN.out] at ho3 hn3)
          go_roundw
          case rel => exact ⟨k + 1, m + 1 + 1, A3, c3, by omega, by go_num, by rw [hn3, HN.out]; (simp <;> exact List.eq_nil_of_length_eq_zero HNN.out.symm), hn3, ho3, hb3⟩
          case measure => simp [intOf]; omega
    · have : k = xs.length := by omega
      subst this
      clear h
      go_wp2
      go_ret
      exact ⟨A2, c2, by rw [HL.out, hn]; rfl, by rw [HL.out]; exact ho, hb⟩
theorem mg_spec (B : Nat) (A : Option Addr) (c : Nat) (xs : List Tri) (hl : xs.length ≤ c) (hc : c ≤ maxLen) (w : World) (hB : B ≤ w.heap.size) (h : TrisAt w B A xs) :
    Calls Try.prog 10 #[.slice A xs.length c] w (MadeT w (mgL xs)) := by
  have hbz : Below w.heap.size w (w.alloc (.cells #[] 33)) := (Below.refl _ _).alloc (Nat.le_refl _) _
  have HA := Lib.hid (lv_spec B A c xs hl hc (w.alloc (.cells #[] 33)) (by simp; omega) (h.below (hbz.mono hB)))
  have HE := Lib.hid (OwnT.empty w (Nat.le_refl w.heap.size))
  cases hv : lval xs
  · have HL := Lib.hid (show mgL xs = [] from by unfold mgL; rw [hv]; rfl)
    clear h
    go_enter Try.func10, Try.ntmps10
    go_wp2_with fail
    refine (HA.out).mono ?_; rw [hv]; rintro e w1 ⟨rfl, hb⟩
    go_wp2
    go_ret
    rw [HL.out]
    exact ⟨_, 0, rfl, OwnT.below HE.out hb (Nat.le_refl _), below_next hbz hb⟩
  have HL := Lib.hid (show mgL xs = mrg xs from by unfold mgL; rw [if_pos hv])
  obtain ⟨hl1, hl2⟩ := lval_len hv
  obtain ⟨-, hva, hvb⟩ := lval_iff.1 hv
  have HLE := Lib.hid (fun k (hk : k ≤ xs.length) => (mrg_at hva hvb k hk).len)
  clear hva hvb
  obtain ⟨i0, hi, hz0, hz1, hz2⟩ := info_parts triInfo
  have HI := Lib.hid hi
  have HZ0 := Lib.hid hz0
  have HZ1 := Lib.hid hz1
  have HZ2 := Lib.hid hz2
  clear hi hz0 hz1 hz2
  go_enter Try.func10, Try.ntmps10
  go_wp2_with fail
  refine (HA.out).mono ?_; rw [hv]; rintro e w1 ⟨rfl, hb1⟩
  clear HA
  have HO := Lib.hid (OwnT.below HE.out hb1 (Nat.le_refl _))
  replace hb1 := below_next hbz hb1
  clear HE hbz
  go_wp2_with fail
  go_loopw [3, 4] (fun o i wr => ∃ (k n : Nat) (A2 : Option Addr) (c2 : Nat), k ≤ xs.length ∧ i = .int .i64 k ∧ o = .slice A2 n c2 ∧ n = (mrgTo xs k).length ∧ OwnT wr w.heap.size A2 c2 (mrgTo xs k) ∧ Below w.heap.size w wr) (fun _ i _ => xs.length - (intOf i).toNat)
  case atStart => exact ⟨0, 0, some ⟨w.heap.size, 0, none⟩, 0, Nat.zero_le _, rfl, rfl, rfl, HO.out, hb1⟩
  case round =>
    obtain ⟨k, n, A2, c2, hk1, rfl, rfl, hn, ho, hb⟩ := hrel
    clear HO hb1
    have hle := HLE.out k hk1
    rw [← hn] at hle
    by_cases hlt : k < xs.length
    · obtain ⟨b, off, rfl⟩ := h.some_ (by omega)
      obtain ⟨x, hx⟩ : ∃ x, xs[k]? = some x := ⟨_, List.getElem?_eq_getElem hlt⟩
      obtain ⟨x1, x2, x3⟩ := x
      obtain ⟨c1', c2', c3'⟩ := (h.below (hb.mono hB)).at_ hx
      simp only at c1' c2' c3'
      have hsz := hb.size
      rcases n with _ | m
      · have HN := Lib.hid (mrgTo_first hx hn.symm)
        have HNN := Lib.hid hn
        clear h hx hn hle
        go_wp2_with fail
        go_quiet (fail)
        go_wp2_with (at_builtin
                     refine list_appT rfl Try.underlying23 HI.out HZ0.out HZ1.out HZ2.out (.tmp 59) (.tmp 64) rfl (base := w.heap.size) (xs := mrgTo xs k) (ys := [(x1, x2, x3)]) rfl HNN.out ?_ rfl ?_ ?_ ?_ ?_
                     · (first | exact ho | exact ho.alloc _ | exact (ho.alloc _).alloc _ | exact ((ho.alloc _).alloc _).drewN _ | exact (ho.alloc _).drewN _)
                     · exact SrcT.one_of (by repeat (first | exact hp_newT _ _ | exact hp_new1T _ _ _ | (with_reducible refine hp_drewT ?_) | (with_reducible refine hp_drewNT ?_) | (with_reducible refine hp_oldT _ ?_)))
                     · (rw [← HNN.out]; simp <;> omega)
                     · (simp <;> omega)
                     intro A3 c3 w3 ho3 hg3 hat
                     have hb3 : Below w.heap.size w w3 := Below.grown (by repeat (first | exact hb | (refine below_more ?_ _) | (refine Below.drew ?_) | (refine Below.alloc ?_ (by first | exact hsz | (simp; omega)) _))) hg3 (by simp <;> omega) ho.row
                     have hn3 : 0 + 1 = (mrgTo xs k ++ [(x1, x2, x3)]).length := by rw [List.length_append, ← HNN.out]; rfl
                     rw [← HN.out] at ho3 hn3)
        go_roundw
        case rel => exact ⟨k + 1, 0 + 1, A3, c3, by omega, by go_num, by rw [hn3, HN.out]; (simp <;> exact List.eq_nil_of_length_eq_zero HNN.out.symm), hn3, ho3, hb3⟩
        case measure => simp [intOf]; omega
      · obtain ⟨y, hy⟩ : ∃ y, (mrgTo xs k)[m]? = some y := ⟨_, List.getElem?_eq_getElem (by omega)⟩
        have HME := Lib.hid (mrgTo_end hx hn.symm hy)
        obtain ⟨y1, y2, y3⟩ := y
        obtain ⟨g, rfl⟩ := ho.some_ (by omega)
        obtain ⟨d1, d2, d3⟩ := ho.at_ hy
        simp only at d1 d2 d3
        have f1 := ho.free (m * 3)
        have hgl : g < wr.heap.size := World.block_lt_of_cell? wr _ d1
        have hgb : w.heap.size ≤ g := ho.row g rfl
        have hwm : IntKind.i64.wrap (m : Int) = (m : Int) := by rw [IntKind.wrap_i64]; omega
        have hm1 : (m : Int) < (m : Int) + 1 := by omega
        have hm0 : (0 : Int) < (m : Int) + 1 := by omega
        have HP := Lib.hid (ho.put0 hy x1)
        have HP2 := Lib.hid (fun o => (OwnT.alloc ho o).put0 hy x1)
        have HNN := Lib.hid hn
        clear h hx hy hn
        by_cases e1 : y2 = x2
        · have e1b : (y2 == x2) = true := by simpa using e1
          by_cases e2 : y3 = x3
          · have e2b : (y3 == x3) = true := by simpa using e2
            have HN := Lib.hid (HME.out.1 (pair_eq e1 e2))
            have HNL := Lib.hid (show m + 1 = (mrgTo xs (k + 1)).length from by rw [HN.out, List.length_set]; exact HNN.out)
            have HO := Lib.hid ho
            have HB := Lib.hid hb
            clear e1 e2 ho hb HME
            go_wp2_with fail
            go_quiet (fail)
            go_wp2
            go_roundw
            case rel =>
              refine ⟨k + 1, m + 1, _, c2, by omega, by go_num, rfl, HNL.out, ?_, ?_⟩
              · rw [HN.out]
                first | exact HP.out | exact HP.out.drewN 1 | exact (HP.out.alloc _) | exact (HP.out.alloc _).drewN 1 | exact HP2.out _ | exact (HP2.out _).drewN _ | exact HP.out.drewN _ | exact (HP.out.alloc _).drewN _
              · repeat (first | exact HB.out | (refine below_more ?_ _) | (refine Below.drew ?_) | (refine Below.alloc ?_ (by first | exact hsz | (simp; omega)) _) | (refine Below.setCell (p := ⟨g, m * 3, none⟩) ?_ hgb _))
            case measure => simp [intOf]; omega
          · have e2b : (y3 == x3) = false := by rw [beq_eq_false_iff_ne]; exact e2
            have HN := Lib.hid (HME.out.2 (fun e => e2 (congrArg Prod.snd e)))
            clear HME HP HP2 e1 e2
            go_wp2_with fail
            go_quiet (fail)
            go_wp2_with (at_builtin
                         refine list_appT rfl Try.underlying23 HI.out HZ0.out HZ1.out HZ2.out (.tmp 59) (.tmp 64) rfl (base := w.heap.size) (xs := mrgTo xs k) (ys := [(x1, x2, x3)]) rfl HNN.out ?_ rfl ?_ ?_ ?_ ?_
                         · (first | exact ho | exact ho.alloc _ | exact (ho.alloc _).alloc _ | exact ((ho.alloc _).alloc _).drewN _ | exact (ho.alloc _).drewN _)
                         · exact SrcT.one_of (by repeat (first | exact hp_newT _ _ | exact hp_new1T _ _ _ | (with_reducible refine hp_drewT ?_) | (with_reducible refine hp_drewNT ?_) | (with_reducible refine hp_oldT _ ?_)))
                         · (rw [← HNN.out]; simp <;> omega)
                         · (simp <;> omega)
                         intro A3 c3 w3 ho3 hg3 hat
                         have hb3 : Below w.heap.size w w3 := Below.grown (by repeat (first | exact hb | (refine below_more ?_ _) | (refine Below.drew ?_) | (refine Below.alloc ?_ (by first | exact hsz | (simp; omega)) _))) hg3 (by simp <;> omega) ho.row
                         have hn3 : m + 1 + 1 = (mrgTo xs k ++ [(x1, x2, x3)]).length := by rw [List.length_append, ← HNN.out]; rfl
                         rw [← HN.out] at ho3 hn3)
            go_roundw
            case rel => exact ⟨k + 1, m + 1 + 1, A3, c3, by omega, by go_num, by rw [hn3, HN.out]; (simp <;> exact List.eq_nil_of_length_eq_zero HNN.out.symm), hn3, ho3, hb3⟩
            case measure => simp [intOf]; omega
        · have e1b : (y2 == x2) = false := by rw [beq_eq_false_iff_ne]; exact e1
          have HN := Lib.hid (HME.out.2 (fun e => e1 (congrArg Prod.fst e)))
          clear HME HP HP2 e1
          go_wp2_with fail
          go_quiet (fail)
          go_wp2_with (at_builtin
                       refine list_appT rfl Try.underlying23 HI.out HZ0.out HZ1.out HZ2.out (.tmp 59) (.tmp 64) rfl (base := w.heap.size) (xs := mrgTo xs k) (ys := [(x1, x2, x3)]) rfl HNN.out ?_ rfl ?_ ?_ ?_ ?_
                       · (first | exact ho | exact ho.alloc _ | exact (ho.alloc _).alloc _ | exact ((ho.alloc _).alloc _).drewN _ | exact (ho.alloc _).drewN _)
                       · exact SrcT.one_of (by repeat (first | exact hp_newT _ _ | exact hp_new1T _ _ _ | (with_reducible refine hp_drewT ?_) | (with_reducible refine hp_drewNT ?_) | (with_reducible refine hp_oldT _ ?_)))
                       · (rw [← HNN.out]; simp <;> omega)
                       · (simp <;> omega)
                       intro A3 c3 w3 ho3 hg3 hat
                       have hb3 : Below w.heap.size w w3 := Below.grown (by repeat (first | exact hb | (refine below_more ?_ _) | (refine Below.drew ?_) | (refine Below.alloc ?_ (by first | exact hsz | (simp; omega)) _))) hg3 (by simp <;> omega) ho.row
                       have hn3 : m + 1 + 1 = (mrgTo xs k ++ [(x1, x2, x3)]).length := by rw [List.length_append, ← HNN.out]; rfl
                       rw [← HN.out] at ho3 hn3)
          go_roundw
          case rel => exact ⟨k + 1, m + 1 + 1, A3, c3, by omega, by go_num, by rw [hn3, HN.out]; (simp <;> exact List.eq_nil_of_length_eq_zero HNN.out.symm), hn3, ho3, hb3⟩
          case measure => simp [intOf]; omega
    · have : k = xs.length := by omega
      subst this
      clear h
      go_wp2
      go_ret
      exact ⟨A2, c2, by rw [HL.out, hn]; rfl, by rw [HL.out]; exact ho, hb⟩
end Go.Proofs.Ytkjolmbcafonaaa
