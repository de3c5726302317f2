/- Walks: LookupRange of the implementation and of the reference. -/
import Derived.Test.YtdlmkgplekcogaaFing
namespace Go.Proofs.Ytdlmkgplekcogaa
open Go.RowKit
set_option maxHeartbeats 4000000
set_option linter.unusedVariables false
theorem lrng_le (xs : List Int) (a b : Int) : (lrng xs a b).length ≤ 64 := by
  unfold lrng; split
  · next h => have := rng_len h.1 a (dst a b + 1).toNat; omega
  · simp
theorem lrng_no {xs : List Int} {a b : Int} (h : ¬ (nval xs = true ∧ pos a = true ∧ pos b = true)) : lrng xs a b = [] := by unfold lrng; rw [if_neg h]
theorem lrng_yes {xs : List Int} {a b : Int} {D : Nat} (hv : nval xs = true) (ha : pos a = true) (hb : pos b = true) (hD : dst a b = (D : Int)) : lrng xs a b = rngTo xs a (D + 1) := by
  unfold lrng; rw [if_pos ⟨hv, ha, hb⟩, hD]; rfl
theorem hold_nnext {xs : List Int} (h : nval xs = true) (a : Int) (k : Nat) : nnext xs ((a + (k : Int)) % 64) = hold xs a k := by rw [nnext_yes h (hold_pos a k)]; rfl
theorem has_mem {xs : List Int} {n : Int} (h : has xs n = false) : n ∉ xs := fun hm => by rw [(has_iff xs n).2 hm] at h; cases h
theorem lrng_impl (B : Nat) (A : Option Addr) (c : Nat) (xs : List Int) (a b : Int) (hl : xs.length ≤ maxLen) (w : World) (hB : B ≤ w.heap.size) (h : NumsAt .i64 w B A xs) :
    Calls Try.prog 18 #[.slice A xs.length c, .int .i64 a, .int .i64 b] w (MadeI w (lrng xs a b)) := by
  have HV := Lib.hid (nval_impl B A c xs hl w h)
  cases hv : nval xs
  · have H := Lib.hid (lrng_no (xs := xs) (a := a) (b := b) (by simp [hv]))
    clear h
    go_enter Try.func18, Try.ntmps18
    go_wp2_with (go_at_call 37; refine (HV.out).mono ?_; rintro e w' ⟨rfl, rfl⟩; rw [hv])
    go_ret
    exact ⟨none, 0, by rw [H.out]; rfl, by rw [H.out]; exact OwnI.none_ _ _, Below.refl _ _⟩
  cases hp : allPos [a, b]
  · have H := Lib.hid (lrng_no (xs := xs) (a := a) (b := b) (by rw [allPos2] at hp; rintro ⟨_, h1, h2⟩; rw [h1, h2] at hp; cases hp))
    clear h
    go_enter Try.func18, Try.ntmps18
    go_wp2_with (first
      | (go_at_call 37; refine (HV.out).mono ?_; rintro e w' ⟨rfl, rfl⟩; rw [hv])
      | (go_at_call 38; refine (positions2 a b _).mono ?_; rw [hp]; rintro e w' ⟨rfl, rfl⟩))
    go_ret
    exact ⟨none, 0, by rw [H.out]; rfl, by rw [H.out]; exact OwnI.none_ _ _, (Below.refl _ _).alloc (Nat.le_refl _) _⟩
  · have hpp : pos a = true ∧ pos b = true := by rw [allPos2] at hp; simpa using hp
    obtain ⟨hpa, hpb⟩ := hpp
    obtain ⟨ha0, ha1⟩ := pos_iff.1 hpa
    have hdb := dst_bd a b
    obtain ⟨D, hD⟩ := Int.eq_ofNat_of_zero_le hdb.1
    have hD63 : D < 64 := by omega
    have H := Lib.hid (lrng_yes hv hpa hpb hD)
    have HD := Lib.hid (show cdist a b = (D : Int) from by rw [cdist_yes' ⟨hpa, hpb⟩]; exact hD)
    have HVV := Lib.hid hv
    clear hD hdb
    obtain ⟨i0, hi, hz0, hz1, hz2⟩ := info_parts int_info
    have HI := Lib.hid hi
    have HZ0 := Lib.hid hz0
    have HZ1 := Lib.hid hz1
    have HZ2 := Lib.hid hz2
    clear hi hz0 hz1 hz2
    have hb1 : Below w.heap.size w (w.alloc (.cells #[.int .i64 a, .int .i64 b] 3)) := (Below.refl _ _).alloc (Nat.le_refl _) _
    go_enter Try.func18, Try.ntmps18
    go_wp2_with (first
      | (go_at_call 37; refine (HV.out).mono ?_; rintro e w' ⟨rfl, rfl⟩; rw [hv])
      | (go_at_call 38; refine (positions2 a b _).mono ?_; rw [hp]; rintro e w' ⟨rfl, rfl⟩)
      | (go_at_call 26; refine (cd_impl a b _).mono ?_; rw [HD.out]; rintro e w2 ⟨rfl, hb2⟩))
    have hB2 : Below w.heap.size w w2 := below_next hb1 hb2
    clear hb1 hb2 HV
    go_loopw [7, 24] (fun s i wr => ∃ (k : Nat) (A' : Option Addr) (c' : Nat), k ≤ D + 1 ∧ i = .int .i64 k ∧ s = .slice A' (rngTo xs a k).length c' ∧ OwnI wr w.heap.size A' c' (rngTo xs a k) ∧ Below w.heap.size w wr) (fun _ i _ => D + 1 - (intOf i).toNat)
    case atStart => exact ⟨0, none, 0, Nat.zero_le _, rfl, rfl, OwnI.none_ _ _, hB2⟩
    case round =>
      obtain ⟨k, A', c', hk, rfl, rfl, ho, hb⟩ := hrel
      clear hB2
      by_cases hlt : k < D + 1
      · have hnum := h.below (hb.mono hB)
        have hsz := hb.size
        have HNN := Lib.hid (nnext_impl B A c xs ((a + (k : Int)) % 64) hl wr hnum)
        have HP := Lib.hid (hold_nnext HVV.out a k)
        have HL := Lib.hid (rng_len HVV.out a k)
        have HR := Lib.hid (rngTo_succ xs a k)
        have hlm : (rngTo xs a k).length ≤ maxLen := by have := HL.out; unfold maxLen; omega
        clear h hnum
        generalize rngTo xs a k = out at ho HL HR hlm
        generalize hold xs a k = n at HP HR
        have HCC := Lib.hid (contains_any wr.heap.size A' c' out n hlm wr ho.nums)
        cases hh : has out n
        · have HX := Lib.hid (show rngTo xs a (k + 1) = out ++ [n] from by rw [HR.out]; exact rngPut_out (has_mem hh))
          go_wp2_with (first
            | (go_at_call 21; refine (HNN.out).mono ?_; rw [HP.out]; rintro e w' ⟨rfl, rfl⟩)
            | (go_at_call 39; refine (HCC.out).mono ?_; rw [hh]; rintro e w' ⟨rfl, rfl⟩)
            | (at_builtin
               refine list_app rfl Try.underlying22 HI.out HZ0.out HZ1.out HZ2.out (.tmp 37) (.tmp 39) rfl (base := w.heap.size) (xs := out) (ys := [n]) rfl rfl (OwnI.alloc ho _) rfl (SrcI.one _ _) ?_ ?_ ?_
               · have := HL.out; simp; omega
               · simp; omega
               intro E2 f2 w4 ho4 hg4 hat4
               have hb4 : Below w.heap.size w w4 := Below.grown (hb.alloc hsz _) hg4 (by simp; omega) ho.row
               clear hat4))
          go_roundw
          case rel => exact ⟨k + 1, E2, f2, by omega, by go_num, by rw [HX.out]; simp, by rw [HX.out]; exact ho4, hb4⟩
          case measure => simp [intOf]; omega
        · have HX := Lib.hid (show rngTo xs a (k + 1) = out from by rw [HR.out]; exact rngPut_in ((has_iff _ _).1 hh))
          go_wp2_with (first
            | (go_at_call 21; refine (HNN.out).mono ?_; rw [HP.out]; rintro e w' ⟨rfl, rfl⟩)
            | (go_at_call 39; refine (HCC.out).mono ?_; rw [hh]; rintro e w' ⟨rfl, rfl⟩))
          go_roundw
          case rel => exact ⟨k + 1, A', c', by omega, by go_num, by rw [HX.out], by rw [HX.out]; exact ho, hb⟩
          case measure => simp [intOf]; omega
      · have : k = D + 1 := by omega
        subst this
        clear h
        go_wp2
        go_ret
        exact ⟨A', c', by rw [H.out]; rfl, by rw [H.out]; exact ho, hb⟩
theorem lrng_spec (B : Nat) (A : Option Addr) (c : Nat) (xs : List Int) (a b : Int) (hl : xs.length ≤ maxLen) (w : World) (hB : B ≤ w.heap.size) (h : NumsAt .i64 w B A xs) :
    Calls Try.prog 17 #[.slice A xs.length c, .int .i64 a, .int .i64 b] w (MadeI w (lrng xs a b)) := by
  have hbz : Below w.heap.size w (w.alloc (.cells #[] 3)) := (Below.refl _ _).alloc (Nat.le_refl _) _
  have HV := Lib.hid (nval_spec B A c xs hl (w.alloc (.cells #[] 3)) (h.below (hbz.mono hB)))
  have ho0 := Lib.hid (OwnI.empty w (base := w.heap.size) (Nat.le_refl _))
  by_cases hall : nval xs = true ∧ pos a = true ∧ pos b = true
  · obtain ⟨hv, hpa, hpb⟩ := hall
    obtain ⟨ha0, ha1⟩ := pos_iff.1 hpa
    obtain ⟨hb0, hb1⟩ := pos_iff.1 hpb
    have hdb := dst_bd a b
    obtain ⟨D, hD⟩ := Int.eq_ofNat_of_zero_le hdb.1
    have hD63 : D < 64 := by omega
    have hl1 := (nval_len hv).1
    have hl10 := (nval_len hv).2
    have H := Lib.hid (lrng_yes hv hpa hpb hD)
    have HD := Lib.hid hD
    have HVV := Lib.hid hv
    have HPA := Lib.hid hpa
    clear hD hdb
    obtain ⟨i0, hi, hz0, hz1, hz2⟩ := info_parts int_info
    have HI := Lib.hid hi
    have HZ0 := Lib.hid hz0
    have HZ1 := Lib.hid hz1
    have HZ2 := Lib.hid hz2
    clear hi hz0 hz1 hz2
    go_enter Try.func17, Try.ntmps17
    go_wp2_with (first
      | (go_at_call 33; refine (HV.out).mono ?_; rintro e w' ⟨rfl, nd, rfl⟩; rw [hv])
      | (go_at_call 34; refine (point_any _ _).mono ?_; rintro e w' ⟨rfl, rfl⟩))
    have hbs : Below w.heap.size w ((w.alloc (.cells #[] 3)).drewN nd) := hbz.trans ((below_draw ⟨nd, rfl⟩).mono (by simp))
    have hos : OwnI ((w.alloc (.cells #[] 3)).drewN nd) w.heap.size (some ⟨w.heap.size, 0, none⟩) 0 [] := ho0.out.drewN nd
    clear hbz HV ho0
    go_loopw [7, 8, 9] (fun s q i wr => ∃ (k t : Nat) (out : List Int) (A' : Option Addr) (c' : Nat), k ≤ xs.length ∧ t ≤ D ∧ i = .int .i64 k ∧ q = .int .i64 ((a + (t : Int)) % 64) ∧ s = .slice A' k c' ∧ OwnI wr w.heap.size A' c' out ∧ Below w.heap.size w wr ∧ out.length = k ∧ RngAt xs a t out) (fun _ _ i _ => xs.length - (intOf i).toNat)
    case atStart => exact ⟨0, 0, [], _, 0, Nat.zero_le _, Nat.zero_le _, rfl, by rw [show (a + ((0 : Nat) : Int)) % 64 = a from by omega], rfl, hos, hbs, rfl, rngAt_zero xs a⟩
    case round =>
      obtain ⟨k, t, out, A', c', hk, htD, rfl, rfl, rfl, ho, hb, hol, hra⟩ := hrel
      clear hbs hos
      have HOL := Lib.hid hol
      have HRA := Lib.hid hra
      clear hol hra
      by_cases hlt : k < xs.length
      · have hnum := h.below (hb.mono hB)
        have hsz := hb.size
        have HNN := Lib.hid (snxt_any B A c xs ((a + (t : Int)) % 64) hl1 hl wr hnum)
        have HP := Lib.hid (show nxt xs ((a + (t : Int)) % 64) = hold xs a t from rfl)
        have hxt := rngAt_next HVV.out HPA.out HRA.out (by omega) (by rw [HOL.out]; exact hlt)
        have hnp := pos_iff.1 (node_pos HVV.out (hold_mem HVV.out a t))
        have hdn := dst_bd a (hold xs a t)
        clear h hnum
        generalize hold xs a t = n at HP hxt hnp hdn
        obtain ⟨n0, n1⟩ := hnp
        obtain ⟨E, hE⟩ := Int.eq_ofNat_of_zero_le hdn.1
        rw [hE] at hxt
        have HX := Lib.hid hxt
        have htE : t ≤ E := by have := hxt.1; omega
        have HE := Lib.hid hE
        have HM := Lib.hid (show (n + 1) % 64 = (a + ((E + 1 : Nat) : Int)) % 64 from by have := hE; unfold dst at this; omega)
        clear hxt hE hdn
        have H1 := fun (W : World) => Lib.hid (sdist_any a n ha0 ha1 n0 n1 W)
        have H2 := fun (W : World) => Lib.hid (sdist_any a b ha0 ha1 hb0 hb1 W)
        by_cases hDE : D ≤ E
        · have HF := Lib.hid (HX.out.2.1 (D + 1) (by omega) (by omega))
          go_wp2_with (first
            | (go_at_call 35; refine (HNN.out).mono ?_; rw [HP.out]; rintro e w' ⟨rfl, rfl⟩)
            | (go_at_call 36; refine ((H1 _).out).mono ?_; rw [HE.out]; rintro e w' ⟨rfl, rfl⟩)
            | (go_at_call 36; refine ((H2 _).out).mono ?_; rw [HD.out]; rintro e w' ⟨rfl, rfl⟩)
            | (at_builtin
               refine list_app rfl Try.underlying22 HI.out HZ0.out HZ1.out HZ2.out (.tmp 36) (.tmp 38) rfl (base := w.heap.size) (xs := out) (ys := [n]) rfl HOL.out.symm (OwnI.alloc ho _) rfl (SrcI.one _ _) ?_ ?_ ?_
               · rw [HOL.out]; simp; omega
               · simp; omega
               intro E2 f2 w4 ho4 hg4 hat4
               have hb4 : Below w.heap.size w w4 := Below.grown (hb.alloc hsz _) hg4 (by simp; omega) ho.row
               clear hat4))
          go_ret
          exact ⟨E2, f2, by rw [H.out, HF.out]; simp, by rw [H.out, HF.out]; exact ho4, hb4⟩
        · have HF := Lib.hid HX.out.2.2
          go_wp2_with (first
            | (go_at_call 35; refine (HNN.out).mono ?_; rw [HP.out]; rintro e w' ⟨rfl, rfl⟩)
            | (go_at_call 36; refine ((H1 _).out).mono ?_; rw [HE.out]; rintro e w' ⟨rfl, rfl⟩)
            | (go_at_call 36; refine ((H2 _).out).mono ?_; rw [HD.out]; rintro e w' ⟨rfl, rfl⟩)
            | (at_builtin
               refine list_app rfl Try.underlying22 HI.out HZ0.out HZ1.out HZ2.out (.tmp 36) (.tmp 38) rfl (base := w.heap.size) (xs := out) (ys := [n]) rfl HOL.out.symm (OwnI.alloc ho _) rfl (SrcI.one _ _) ?_ ?_ ?_
               · rw [HOL.out]; simp; omega
               · simp; omega
               intro E2 f2 w4 ho4 hg4 hat4
               have hb4 : Below w.heap.size w w4 := Below.grown (hb.alloc hsz _) hg4 (by simp; omega) ho.row
               clear hat4))
          go_roundw
          case rel => exact ⟨k + 1, E + 1, out ++ [n], E2, f2, by omega, by omega, by go_num, by rw [← HM.out], by rw [HOL.out], ho4, hb4, by simp [HOL.out], HF.out⟩
          case measure => simp [intOf]; omega
      · have hke : k = xs.length := by omega
        have HF := Lib.hid (rngAt_all HVV.out HRA.out (by rw [HOL.out]; omega) (D + 1) (by omega))
        clear h
        go_wp2
        go_ret
        exact ⟨A', c', by rw [H.out, HF.out, HOL.out]; rfl, by rw [H.out, HF.out]; exact ho, hb⟩
  · have H := Lib.hid (lrng_no hall)
    clear h
    cases hv : nval xs
    · go_enter Try.func17, Try.ntmps17
      go_wp2_with (go_at_call 33; refine (HV.out).mono ?_; rintro e w' ⟨rfl, nd, rfl⟩; rw [hv])
      go_ret
      exact ⟨_, 0, by rw [H.out]; rfl, by rw [H.out]; exact ho0.out.drewN nd, hbz.trans ((below_draw ⟨nd, rfl⟩).mono (by simp))⟩
    · have hcase : pos a = false ∨ (pos a = true ∧ pos b = false) := by
        cases hpa : pos a
        · exact .inl rfl
        · cases hpb : pos b
          · exact .inr ⟨rfl, rfl⟩
          · exact absurd ⟨hv, hpa, hpb⟩ hall
      clear hall
      rcases hcase with hpa | ⟨hpa, hpb⟩
      all_goals
        go_enter Try.func17, Try.ntmps17
        go_wp2_with (first
          | (go_at_call 33; refine (HV.out).mono ?_; rintro e w' ⟨rfl, nd, rfl⟩; rw [hv])
          | (go_at_call 34; refine (point_any a _).mono ?_; rw [hpa]; rintro e w' ⟨rfl, rfl⟩)
          | (go_at_call 34; refine (point_any b _).mono ?_; rw [hpb]; rintro e w' ⟨rfl, rfl⟩))
        go_ret
        exact ⟨_, 0, by rw [H.out]; rfl, by rw [H.out]; exact ho0.out.drewN nd, hbz.trans ((below_draw ⟨nd, rfl⟩).mono (by simp))⟩
end Go.Proofs.Ytdlmkgplekcogaa
