/- Walks: the draws of leases (l91Time, l91Leases and what is drawn by them): a row of leases of the call's own; nothing that was there before turns. -/
import Derived.Test.YtkjolmbcafonaaaDoorDraw2
import Derived.Test.YtkjolmbcafonaaaDoorAppT
import Derived.OwnWalk
namespace Go.Proofs.YtkjolmbcafonaaaDoor
open Go.RowKit
set_option maxHeartbeats 2000000
set_option linter.unusedVariables false
theorem grown_alloc {w w' : World} {r : Option Nat} (h : w.grownBy w' r) (o : Obj) : w.grownBy (w'.alloc o) r :=
  ⟨h.os, h.tape, h.output, by have := h.size; simp; omega, fun k hk hne => (Below.heap_alloc w' o k (Nat.lt_of_lt_of_le hk h.size)).trans (h.block k hk hne)⟩
theorem Rd.alloc {w : World} {R M : Nat} (h : Rd w R M) (o : Obj) : Rd (w.alloc o) R M := h.keep fun k hk => Below.heap_alloc w o k (Nat.lt_of_le_of_lt hk h.lt)
theorem grown_set {w w' : World} {R g : Nat} (h : w.grownBy w' (some R)) (hg : w.heap.size ≤ g) (i : Nat) (u : Value) : w.grownBy (w'.setCell ⟨g, i, none⟩ u) (some R) :=
  ⟨h.os, h.tape, h.output, by simpa [World.setCell] using h.size, fun k hk hne => (Below.heap_setCell w' ⟨g, i, none⟩ u k (by simp; omega)).trans (h.block k hk hne)⟩
theorem Rd.set_ {w : World} {R M g : Nat} (h : Rd w R M) (hg : R < g) (i : Nat) (u : Value) : Rd (w.setCell ⟨g, i, none⟩ u) R M := h.keep fun k hk => Below.heap_setCell w ⟨g, i, none⟩ u k (by simp; omega)
theorem grown_wide {w w' w'' : World} {R : Nat} {r : Option Nat} (h : w.grownBy w' (some R)) (k : w'.grownBy w'' r) (hr : ∀ b, r = some b → w.heap.size ≤ b) : w.grownBy w'' (some R) :=
  ⟨k.os.trans h.os, k.tape.trans h.tape, k.output.trans h.output, Nat.le_trans h.size k.size, fun b hb hne => (k.block b (Nat.lt_of_lt_of_le hb h.size) (fun e => by have := hr b e.symm; omega)).trans (h.block b hb hne)⟩
theorem Rd.wide {w w' : World} {R M : Nat} {r : Option Nat} {B : Nat} (h : Rd w R M) (k : w.grownBy w' r) (hr : ∀ b, r = some b → B ≤ b) (hB : R < B) : Rd w' R M :=
  h.keep fun b hb => k.block b (Nat.lt_of_le_of_lt hb h.lt) (fun e => by have := hr b e.symm; omega)
theorem OwnT.cut {w : World} {base : Nat} {A : Option Addr} {c : Nat} {xs : List Tri} (h : OwnT w base A c xs) (j : Nat) (hj : j ≤ xs.length) : OwnT w base A c (xs.take j) := by
  have e : flat (xs.take j) = (flat xs).take (j * 3) := by
    have : flat xs = flat (xs.take j) ++ flat (xs.drop j) := by rw [← flat_append, List.take_append_drop]
    have h1 : (flat (xs.take j)).length = j * 3 := by rw [flat_len, List.length_take, Nat.min_eq_left hj]
    rw [this, ← h1, List.take_left' rfl]
  have hl : (xs.take j).length = j := by simp; omega
  rcases h.2 with ⟨hv, h0⟩ | ⟨g, cap, cur, hv, hb, hg, h1, h2, h3, h4⟩
  · injection hv with e1 e2 e3
    have hx := List.eq_nil_of_length_eq_zero h0
    subst hx e1 e3
    simp only [List.take_nil]
    exact OwnT.none_ w base
  · injection hv with e1 e2 e3
    subst e1 e3
    unfold OwnT
    rw [hl, e]
    refine ⟨by rw [List.length_take, flat_len]; omega, .inr ⟨g, c, cur, rfl, hb, hg, by omega, h2, h3, ?_⟩⟩
    rw [← h4, List.take_take, Nat.min_eq_left (by omega)]
def TimeD (w : World) (R M : Nat) (e : Ending) (w' : World) : Prop := ∃ x : Int, -1 ≤ x ∧ x ≤ 1000 ∧ e = .returned (.int .i64 x) ∧ Rd w' R (M + 2) ∧ w.grownBy w' (some R)
theorem rtime_any (R M : Nat) (hM : M ≤ 90000) (w : World) (h : Rd w R M) : Calls Tryd.prog 17 #[.pointer (some ⟨R, 0, none⟩)] w (TimeD w R M) := by
  have hR := h.lt
  go_enter Tryd.func17, Tryd.ntmps17
  go_wp2_with fail
  refine (pick_any R M 16 (by omega) (by omega) (by omega) w h).mono ?_; rintro e w1 ⟨x, x0, x1, rfl, hr1, hg1⟩
  clear h
  by_cases hx : x = 0
  · subst hx
    have hr1' := hr1.alloc (.cells #[.int .i64 (-1), .int .i64 0, .int .i64 999, .int .i64 1000] 3 (0, 0))
    have hg1' := grown_alloc hg1 (.cells #[.int .i64 (-1), .int .i64 0, .int .i64 999, .int .i64 1000] 3 (0, 0))
    have hT := heap_alloc_new w1 (.cells #[.int .i64 (-1), .int .i64 0, .int .i64 999, .int .i64 1000] 3 (0, 0))
    have hR1 := hr1.lt
    have HT := Lib.hid hT
    clear hT hr1 hg1
    go_wp2_with fail
    refine (pick_any R (M + 1) 4 (by omega) (by omega) (by omega) _ hr1').mono ?_; rintro e w2 ⟨y, y0, y1, rfl, hr2, hg2⟩
    have hb := (hg2.block w1.heap.size (by simp) (by simp; omega)).trans HT.out
    have c0 : w2.cell? ⟨w1.heap.size, 0, none⟩ = some (.int .i64 (-1)) := by rw [cell_of_row _ _ _ _ _ _ hb]; rfl
    have c1 : w2.cell? ⟨w1.heap.size, 1, none⟩ = some (.int .i64 0) := by rw [cell_of_row _ _ _ _ _ _ hb]; rfl
    have c2 : w2.cell? ⟨w1.heap.size, 2, none⟩ = some (.int .i64 999) := by rw [cell_of_row _ _ _ _ _ _ hb]; rfl
    have c3 : w2.cell? ⟨w1.heap.size, 3, none⟩ = some (.int .i64 1000) := by rw [cell_of_row _ _ _ _ _ _ hb]; rfl
    have hG := grown_next hg1' hg2
    clear hb HT hg1' hg2 hr1'
    rcases (by omega : y = 0 ∨ y = 1 ∨ y = 2 ∨ y = 3) with rfl | rfl | rfl | rfl
    all_goals
      go_wp2
      go_ret
      exact ⟨_, by omega, by omega, rfl, hr2, hG⟩
  · have hx' : (x == 0) = false := by rw [beq_eq_false_iff_ne]; exact hx
    go_wp2_with fail
    refine (pick_any R (M + 1) 60 (by omega) (by omega) (by omega) w1 hr1).mono ?_; rintro e w2 ⟨y, y0, y1, rfl, hr2, hg2⟩
    go_wp2
    go_ret
    exact ⟨y, by omega, by omega, rfl, hr2, grown_next hg1 hg2⟩
def Leased (w : World) (R M : Nat) (e : Ending) (w' : World) : Prop := ∃ (A : Option Addr) (c : Nat) (xs : List Tri), e = .returned (.slice A xs.length c) ∧ OwnT w' w.heap.size A c xs ∧ xs.length ≤ 12 ∧ Rd w' R (M + 60) ∧ w.grownBy w' (some R)
theorem leases_any (R M : Nat) (hM : M ≤ 80000) (w : World) (h : Rd w R M) : Calls Tryd.prog 14 #[.pointer (some ⟨R, 0, none⟩)] w (Leased w R M) := by
  obtain ⟨i0, hi, hz0, hz1, hz2⟩ := info_parts triInfo
  have HI := Lib.hid hi
  have HZ0 := Lib.hid hz0
  have HZ1 := Lib.hid hz1
  have HZ2 := Lib.hid hz2
  clear hi hz0 hz1 hz2
  have hR := h.lt
  have HE := Lib.hid (OwnT.empty w (Nat.le_refl w.heap.size))
  have hr0 := h.alloc (.cells #[] 34)
  have hg0 := grown_alloc (World.grownBy.refl w (some R)) (.cells #[] 34)
  clear h
  go_enter Tryd.func14, Tryd.ntmps14
  go_wp2_with fail
  refine (pick_any R M 9 (by omega) (by omega) (by omega) _ hr0).mono ?_; rintro e w1 ⟨p, p0, p1, rfl, hr1, hg1⟩
  have ho1 := HE.out.grown hg1 hR
  replace hg1 := grown_next hg0 hg1
  clear hr0 hg0 HE
  go_wp2_with fail
  refine (pick_any R (M + 1) 6 (by omega) (by omega) (by omega) w1 hr1).mono ?_; rintro e w2 ⟨q, q0, q1, rfl, hr2, hg2⟩
  have ho2 := ho1.grown hg2 hR
  replace hg2 := grown_next hg1 hg2
  clear hr1 hg1 ho1
  by_cases hq : q = 0
  · subst hq
    go_wp2_with fail
    refine (pick_any R (M + 2) 2 (by omega) (by omega) (by omega) w2 hr2).mono ?_; rintro e w3 ⟨x, x0, x1, rfl, hr3, hg3⟩
    replace ho2 := ho2.grown hg3 hR
    replace hg2 := grown_next hg2 hg3
    replace hr2 := hr3
    clear hr3 hg3
    obtain ⟨N, hN, N1, N2⟩ : ∃ N : Nat, 11 + x = (N : Int) ∧ 1 ≤ N ∧ N ≤ 12 := ⟨(11 + x).toNat, by omega, by omega, by omega⟩
    go_wp2_with fail
    clear hN
    have hN0 : ¬ N = 0 := by omega
    have hNz : ((N : Int) == 0) = false := by rw [beq_eq_false_iff_ne]; omega
    obtain ⟨Q, hQ, Q1, Q2⟩ : ∃ Q : Nat, 64 / N = Q ∧ 5 ≤ Q ∧ Q ≤ 64 := ⟨_, rfl, (Nat.le_div_iff_mul_le (by omega)).2 (by omega), Nat.div_le_self _ _⟩
    have hQd : (64 : Int) / (N : Int) = (Q : Int) := by rw [← hQ]; rfl
    have hQt : IntKind.i64.wrap ((64 : Int).tdiv (N : Int)) = (Q : Int) := by have h := IntWalk.up_tdiv (x := 64) (y := N) rfl rfl; show IntKind.i64.wrap (((64 : Nat) : Int).tdiv (N : Int)) = _; rw [h, hQ]; exact IntWalk.i64_in _ (by omega)
    clear hQ
    go_loopw [3, 5, 6] (fun o e i wr => ∃ (k : Nat) (A : Option Addr) (c : Nat) (xs : List Tri) (z : Int), k ≤ N ∧ i = .int .i64 k ∧ o = .slice A k c ∧ xs.length = k ∧ OwnT wr w.heap.size A c xs ∧ e = .int .i64 z ∧ -1 ≤ z ∧ z ≤ 64 * k ∧ Rd wr R (M + 3 + 3 * k) ∧ w.grownBy wr (some R)) (fun _ _ i _ => N - (intOf i).toNat)
    case atStart => exact ⟨0, _, _, [], -1, Nat.zero_le _, rfl, rfl, rfl, ho2, rfl, by omega, by omega, hr2.more (by omega), hg2⟩
    case round =>
      obtain ⟨k, A, c, xs, z, hk, rfl, rfl, hxl, ho, rfl, z0, z1, hr, hg⟩ := hrel
      clear ho2 hr2 hg2
      by_cases hlt : k < N
      · have z2 : z ≤ 800 := by omega
        go_wp2_with fail
        refine (pick_any R (M + 3 + 3 * k) Q (by omega) (by omega) (by omega) _ hr).mono ?_; rintro e w3 ⟨y, y0, y1, rfl, hr3, hg3⟩
        replace ho := ho.grown hg3 hR
        replace hg := grown_next hg hg3
        clear hr hg3
        have v1 : z + 1 + y ≤ 64 * ((k + 1 : Nat) : Int) := by omega
        have v2 : -1 ≤ z + 1 + y := by omega
        have v3 : z + 1 + y ≤ 900 := by omega
        by_cases hmin : (63 : Int) < z + 1 + y
        · go_wp2_with fail
          refine (pick_any R (M + 3 + 3 * k + 1) 5 (by omega) (by omega) (by omega) _ hr3).mono ?_; rintro e w4 ⟨a, a0, a1, rfl, hr4, hg4⟩
          replace ho := ho.grown hg4 hR
          replace hg := grown_next hg hg4
          clear hr3 hg4
          go_wp2_with fail
          refine (pick_any R (M + 3 + 3 * k + 2) 6 (by omega) (by omega) (by omega) _ hr4).mono ?_; rintro e w5 ⟨d, d0, d1, rfl, hr5, hg5⟩
          replace ho := ho.grown hg5 hR
          replace hg := grown_next hg hg5
          have hsz := hg.size
          clear hr4 hg5
          go_wp2_with (at_builtin
                       refine list_appT rfl Tryd.underlying23 HI.out HZ0.out HZ1.out HZ2.out (.tmp 30) (.tmp 40) rfl (base := w.heap.size) (xs := xs) (ys := [(63, 10 * a, 10 * d)]) rfl hxl.symm ?_ rfl ?_ ?_ ?_ ?_
                       · exact ho.alloc _
                       · exact SrcT.one_of (heap_alloc_new _ _)
                       · (simp <;> omega)
                       · (simp <;> omega)
                       intro A3 c3 w6 ho6 hg6 hat
                       have hr6 := (hr5.alloc _).wide hg6 ho.row hR
                       have hG6 := grown_wide (grown_alloc hg _) hg6 ho.row
                       have HL6 := Lib.hid (show k + 1 = (xs ++ [(63, 10 * a, 10 * d)]).length from by rw [List.length_append, hxl]; rfl))
          go_roundw
          case rel => exact ⟨k + 1, A3, c3, _, z + 1 + y, by omega, by go_num, by rw [HL6.out], HL6.out.symm, ho6, rfl, v2, v1, hr6.more (by omega), hG6⟩
          case measure => simp [intOf]; omega
        · go_wp2_with fail
          refine (pick_any R (M + 3 + 3 * k + 1) 5 (by omega) (by omega) (by omega) _ hr3).mono ?_; rintro e w4 ⟨a, a0, a1, rfl, hr4, hg4⟩
          replace ho := ho.grown hg4 hR
          replace hg := grown_next hg hg4
          clear hr3 hg4
          go_wp2_with fail
          refine (pick_any R (M + 3 + 3 * k + 2) 6 (by omega) (by omega) (by omega) _ hr4).mono ?_; rintro e w5 ⟨d, d0, d1, rfl, hr5, hg5⟩
          replace ho := ho.grown hg5 hR
          replace hg := grown_next hg hg5
          have hsz := hg.size
          clear hr4 hg5
          go_wp2_with (at_builtin
                       refine list_appT rfl Tryd.underlying23 HI.out HZ0.out HZ1.out HZ2.out (.tmp 30) (.tmp 40) rfl (base := w.heap.size) (xs := xs) (ys := [(z + 1 + y, 10 * a, 10 * d)]) rfl hxl.symm ?_ rfl ?_ ?_ ?_ ?_
                       · exact ho.alloc _
                       · exact SrcT.one_of (heap_alloc_new _ _)
                       · (simp <;> omega)
                       · (simp <;> omega)
                       intro A3 c3 w6 ho6 hg6 hat
                       have hr6 := (hr5.alloc _).wide hg6 ho.row hR
                       have hG6 := grown_wide (grown_alloc hg _) hg6 ho.row
                       have HL6 := Lib.hid (show k + 1 = (xs ++ [(z + 1 + y, 10 * a, 10 * d)]).length from by rw [List.length_append, hxl]; rfl))
          go_roundw
          case rel => exact ⟨k + 1, A3, c3, _, z + 1 + y, by omega, by go_num, by rw [HL6.out], HL6.out.symm, ho6, rfl, v2, v1, hr6.more (by omega), hG6⟩
          case measure => simp [intOf]; omega
      · have hkN : k = N := by omega
        subst hkN
        obtain ⟨g, rfl⟩ := ho.some_ (by omega)
        have hgb : w.heap.size ≤ g := ho.row g rfl
        go_wp2_with fail
        refine (pick_any R (M + 3 + 3 * k) k (by omega) (by omega) (by omega) _ hr).mono ?_; rintro e w3 ⟨j, j0, j1, rfl, hr3, hg3⟩
        replace ho := ho.grown hg3 hR
        replace hg := grown_next hg hg3
        clear hr hg3
        obtain ⟨j, rfl⟩ := Int.eq_ofNat_of_zero_le j0
        have hj : j < k := by omega
        go_wp2_with fail
        refine (pick_any R (M + 3 + 3 * k + 1) 20 (by omega) (by omega) (by omega) _ hr3).mono ?_; rintro e w4 ⟨v, v0, v5, rfl, hr4, hg4⟩
        replace ho := ho.grown hg4 hR
        replace hg := grown_next hg hg4
        clear hr3 hg4 hQd hQt hNz
        by_cases hv0 : v = 0
        · subst hv0
          go_wp2_with fail
          refine (rpoint_any R (M + 3 + 3 * k + 2) (by omega) _ hr4).mono ?_; rintro e w5 ⟨u, u0, u1, rfl, hr5, hg5⟩
          replace ho := ho.grown hg5 hR
          replace hg := grown_next hg hg5
          clear hr4 hg5
          obtain ⟨x, hx⟩ : ∃ x, xs[j]? = some x := ⟨_, List.getElem?_eq_getElem (by omega)⟩
          obtain ⟨x1, x2, x3⟩ := x
          obtain ⟨c1, c2, c3⟩ := ho.at_ hx
          simp only at c1 c2 c3
          have f1 := ho.free (j * 3)
          have HP := Lib.hid (ho.put0 hx u)
          have HR := Lib.hid (hr5.set_ (g := g) (by omega) (j * 3) (.int .i64 u))
          have HG := Lib.hid (grown_set hg hgb (j * 3) (.int .i64 u))
          clear hx ho hr5 hg
          go_wp2
          go_ret
          exact ⟨_, c, _, by rw [List.length_set, hxl]; rfl, HP.out, by rw [List.length_set]; omega, HR.out.more (by omega), HG.out⟩
        · have hv0b : (v == 0) = false := by rw [beq_eq_false_iff_ne]; exact hv0
          by_cases hv1 : v = 1
          · subst hv1
            go_wp2_with fail
            refine (rpoint_any R (M + 3 + 3 * k + 2) (by omega) _ hr4).mono ?_; rintro e w5 ⟨u, u0, u1, rfl, hr5, hg5⟩
            replace ho := ho.grown hg5 hR
            replace hg := grown_next hg hg5
            clear hr4 hg5
            obtain ⟨x, hx⟩ : ∃ x, xs[j]? = some x := ⟨_, List.getElem?_eq_getElem (by omega)⟩
            obtain ⟨x1, x2, x3⟩ := x
            obtain ⟨c1, c2, c3⟩ := ho.at_ hx
            simp only at c1 c2 c3
            have f1 := ho.free (j * 3 + 1)
            have HP := Lib.hid (ho.put1 hx u)
            have HR := Lib.hid (hr5.set_ (g := g) (by omega) (j * 3 + 1) (.int .i64 u))
            have HG := Lib.hid (grown_set hg hgb (j * 3 + 1) (.int .i64 u))
            clear hx ho hr5 hg
            go_wp2
            go_ret
            exact ⟨_, c, _, by rw [List.length_set, hxl]; rfl, HP.out, by rw [List.length_set]; omega, HR.out.more (by omega), HG.out⟩
          · have hv1b : (v == 1) = false := by rw [beq_eq_false_iff_ne]; exact hv1
            by_cases hv2 : v = 2
            · subst hv2
              go_wp2_with fail
              refine (rtime_any R (M + 3 + 3 * k + 2) (by omega) _ hr4).mono ?_; rintro e w5 ⟨u, u0, u1, rfl, hr5, hg5⟩
              replace ho := ho.grown hg5 hR
              replace hg := grown_next hg hg5
              clear hr4 hg5
              obtain ⟨x, hx⟩ : ∃ x, xs[j]? = some x := ⟨_, List.getElem?_eq_getElem (by omega)⟩
              obtain ⟨x1, x2, x3⟩ := x
              obtain ⟨c1, c2, c3⟩ := ho.at_ hx
              simp only at c1 c2 c3
              have f1 := ho.free (j * 3 + 2)
              have HP := Lib.hid (ho.put2 hx u)
              have HR := Lib.hid (hr5.set_ (g := g) (by omega) (j * 3 + 2) (.int .i64 u))
              have HG := Lib.hid (grown_set hg hgb (j * 3 + 2) (.int .i64 u))
              clear hx ho hr5 hg
              go_wp2
              go_ret
              exact ⟨_, c, _, by rw [List.length_set, hxl]; rfl, HP.out, by rw [List.length_set]; omega, HR.out.more (by omega), HG.out⟩
            · have hv2b : (v == 2) = false := by rw [beq_eq_false_iff_ne]; exact hv2
              by_cases hv3 : v = 3
              · subst hv3
                go_wp2_with fail
                refine (pick_any R (M + 3 + 3 * k + 2) 2 (by omega) (by omega) (by omega) _ hr4).mono ?_; rintro e w5 ⟨u, u0, u1, rfl, hr5, hg5⟩
                replace ho := ho.grown hg5 hR
                replace hg := grown_next hg hg5
                obtain ⟨hlen1, hlen2⟩ := ho.len
                unfold maxLen at hlen2
                obtain ⟨u, rfl⟩ := Int.eq_ofNat_of_zero_le u0
                have HC := Lib.hid (ho.cut u (by omega))
                have HL := Lib.hid (show u = (xs.take u).length from by simp; omega)
                have hu1 : (u : Int) ≤ (c : Int) := by omega
                clear hr4 hg5 ho
                go_wp2
                go_ret
                exact ⟨_, c, _, by rw [← HL.out]; rfl, HC.out, by rw [← HL.out]; omega, hr5.more (by omega), hg⟩
              · have hv3b : (v == 3) = false := by rw [beq_eq_false_iff_ne]; exact hv3
                go_wp2
                go_ret
                exact ⟨_, c, xs, by rw [hxl]; rfl, ho, by omega, hr4.more (by omega), hg⟩
  · have hq' : (q == 0) = false := by rw [beq_eq_false_iff_ne]; exact hq
    obtain ⟨N, hN, N1, N2⟩ : ∃ N : Nat, 1 + p = (N : Int) ∧ 1 ≤ N ∧ N ≤ 12 := ⟨(1 + p).toNat, by omega, by omega, by omega⟩
    replace hr2 := hr2.more (show M + 2 ≤ M + 3 by omega)
    go_wp2_with fail
    clear hN
    have hN0 : ¬ N = 0 := by omega
    have hNz : ((N : Int) == 0) = false := by rw [beq_eq_false_iff_ne]; omega
    obtain ⟨Q, hQ, Q1, Q2⟩ : ∃ Q : Nat, 64 / N = Q ∧ 5 ≤ Q ∧ Q ≤ 64 := ⟨_, rfl, (Nat.le_div_iff_mul_le (by omega)).2 (by omega), Nat.div_le_self _ _⟩
    have hQd : (64 : Int) / (N : Int) = (Q : Int) := by rw [← hQ]; rfl
    have hQt : IntKind.i64.wrap ((64 : Int).tdiv (N : Int)) = (Q : Int) := by have h := IntWalk.up_tdiv (x := 64) (y := N) rfl rfl; show IntKind.i64.wrap (((64 : Nat) : Int).tdiv (N : Int)) = _; rw [h, hQ]; exact IntWalk.i64_in _ (by omega)
    clear hQ
    go_loopw [3, 5, 6] (fun o e i wr => ∃ (k : Nat) (A : Option Addr) (c : Nat) (xs : List Tri) (z : Int), k ≤ N ∧ i = .int .i64 k ∧ o = .slice A k c ∧ xs.length = k ∧ OwnT wr w.heap.size A c xs ∧ e = .int .i64 z ∧ -1 ≤ z ∧ z ≤ 64 * k ∧ Rd wr R (M + 3 + 3 * k) ∧ w.grownBy wr (some R)) (fun _ _ i _ => N - (intOf i).toNat)
    case atStart => exact ⟨0, _, _, [], -1, Nat.zero_le _, rfl, rfl, rfl, ho2, rfl, by omega, by omega, hr2.more (by omega), hg2⟩
    case round =>
      obtain ⟨k, A, c, xs, z, hk, rfl, rfl, hxl, ho, rfl, z0, z1, hr, hg⟩ := hrel
      clear ho2 hr2 hg2
      by_cases hlt : k < N
      · have z2 : z ≤ 800 := by omega
        go_wp2_with fail
        refine (pick_any R (M + 3 + 3 * k) Q (by omega) (by omega) (by omega) _ hr).mono ?_; rintro e w3 ⟨y, y0, y1, rfl, hr3, hg3⟩
        replace ho := ho.grown hg3 hR
        replace hg := grown_next hg hg3
        clear hr hg3
        have v1 : z + 1 + y ≤ 64 * ((k + 1 : Nat) : Int) := by omega
        have v2 : -1 ≤ z + 1 + y := by omega
        have v3 : z + 1 + y ≤ 900 := by omega
        by_cases hmin : (63 : Int) < z + 1 + y
        · go_wp2_with fail
          refine (pick_any R (M + 3 + 3 * k + 1) 5 (by omega) (by omega) (by omega) _ hr3).mono ?_; rintro e w4 ⟨a, a0, a1, rfl, hr4, hg4⟩
          replace ho := ho.grown hg4 hR
          replace hg := grown_next hg hg4
          clear hr3 hg4
          go_wp2_with fail
          refine (pick_any R (M + 3 + 3 * k + 2) 6 (by omega) (by omega) (by omega) _ hr4).mono ?_; rintro e w5 ⟨d, d0, d1, rfl, hr5, hg5⟩
          replace ho := ho.grown hg5 hR
          replace hg := grown_next hg hg5
          have hsz := hg.size
          clear hr4 hg5
          go_wp2_with (at_builtin
                       refine list_appT rfl Tryd.underlying23 HI.out HZ0.out HZ1.out HZ2.out (.tmp 30) (.tmp 40) rfl (base := w.heap.size) (xs := xs) (ys := [(63, 10 * a, 10 * d)]) rfl hxl.symm ?_ rfl ?_ ?_ ?_ ?_
                       · exact ho.alloc _
                       · exact SrcT.one_of (heap_alloc_new _ _)
                       · (simp <;> omega)
                       · (simp <;> omega)
                       intro A3 c3 w6 ho6 hg6 hat
                       have hr6 := (hr5.alloc _).wide hg6 ho.row hR
                       have hG6 := grown_wide (grown_alloc hg _) hg6 ho.row
                       have HL6 := Lib.hid (show k + 1 = (xs ++ [(63, 10 * a, 10 * d)]).length from by rw [List.length_append, hxl]; rfl))
          go_roundw
          case rel => exact ⟨k + 1, A3, c3, _, z + 1 + y, by omega, by go_num, by rw [HL6.out], HL6.out.symm, ho6, rfl, v2, v1, hr6.more (by omega), hG6⟩
          case measure => simp [intOf]; omega
        · go_wp2_with fail
          refine (pick_any R (M + 3 + 3 * k + 1) 5 (by omega) (by omega) (by omega) _ hr3).mono ?_; rintro e w4 ⟨a, a0, a1, rfl, hr4, hg4⟩
          replace ho := ho.grown hg4 hR
          replace hg := grown_next hg hg4
          clear hr3 hg4
          go_wp2_with fail
          refine (pick_any R (M + 3 + 3 * k + 2) 6 (by omega) (by omega) (by omega) _ hr4).mono ?_; rintro e w5 ⟨d, d0, d1, rfl, hr5, hg5⟩
          replace ho := ho.grown hg5 hR
          replace hg := grown_next hg hg5
          have hsz := hg.size
          clear hr4 hg5
          go_wp2_with (at_builtin
                       refine list_appT rfl Tryd.underlying23 HI.out HZ0.out HZ1.out HZ2.out (.tmp 30) (.tmp 40) rfl (base := w.heap.size) (xs := xs) (ys := [(z + 1 + y, 10 * a, 10 * d)]) rfl hxl.symm ?_ rfl ?_ ?_ ?_ ?_
                       · exact ho.alloc _
                       · exact SrcT.one_of (heap_alloc_new _ _)
                       · (simp <;> omega)
                       · (simp <;> omega)
                       intro A3 c3 w6 ho6 hg6 hat
                       have hr6 := (hr5.alloc _).wide hg6 ho.row hR
                       have hG6 := grown_wide (grown_alloc hg _) hg6 ho.row
                       have HL6 := Lib.hid (show k + 1 = (xs ++ [(z + 1 + y, 10 * a, 10 * d)]).length from by rw [List.length_append, hxl]; rfl))
          go_roundw
          case rel => exact ⟨k + 1, A3, c3, _, z + 1 + y, by omega, by go_num, by rw [HL6.out], HL6.out.symm, ho6, rfl, v2, v1, hr6.more (by omega), hG6⟩
          case measure => simp [intOf]; omega
      · have hkN : k = N := by omega
        subst hkN
        obtain ⟨g, rfl⟩ := ho.some_ (by omega)
        have hgb : w.heap.size ≤ g := ho.row g rfl
        go_wp2_with fail
        refine (pick_any R (M + 3 + 3 * k) k (by omega) (by omega) (by omega) _ hr).mono ?_; rintro e w3 ⟨j, j0, j1, rfl, hr3, hg3⟩
        replace ho := ho.grown hg3 hR
        replace hg := grown_next hg hg3
        clear hr hg3
        obtain ⟨j, rfl⟩ := Int.eq_ofNat_of_zero_le j0
        have hj : j < k := by omega
        go_wp2_with fail
        refine (pick_any R (M + 3 + 3 * k + 1) 20 (by omega) (by omega) (by omega) _ hr3).mono ?_; rintro e w4 ⟨v, v0, v5, rfl, hr4, hg4⟩
        replace ho := ho.grown hg4 hR
        replace hg := grown_next hg hg4
        clear hr3 hg4 hQd hQt hNz
        by_cases hv0 : v = 0
        · subst hv0
          go_wp2_with fail
          refine (rpoint_any R (M + 3 + 3 * k + 2) (by omega) _ hr4).mono ?_; rintro e w5 ⟨u, u0, u1, rfl, hr5, hg5⟩
          replace ho := ho.grown hg5 hR
          replace hg := grown_next hg hg5
          clear hr4 hg5
          obtain ⟨x, hx⟩ : ∃ x, xs[j]? = some x := ⟨_, List.getElem?_eq_getElem (by omega)⟩
          obtain ⟨x1, x2, x3⟩ := x
          obtain ⟨c1, c2, c3⟩ := ho.at_ hx
          simp only at c1 c2 c3
          have f1 := ho.free (j * 3)
          have HP := Lib.hid (ho.put0 hx u)
          have HR := Lib.hid (hr5.set_ (g := g) (by omega) (j * 3) (.int .i64 u))
          have HG := Lib.hid (grown_set hg hgb (j * 3) (.int .i64 u))
          clear hx ho hr5 hg
          go_wp2
          go_ret
          exact ⟨_, c, _, by rw [List.length_set, hxl]; rfl, HP.out, by rw [List.length_set]; omega, HR.out.more (by omega), HG.out⟩
        · have hv0b : (v == 0) = false := by rw [beq_eq_false_iff_ne]; exact hv0
          by_cases hv1 : v = 1
          · subst hv1
            go_wp2_with fail
            refine (rpoint_any R (M + 3 + 3 * k + 2) (by omega) _ hr4).mono ?_; rintro e w5 ⟨u, u0, u1, rfl, hr5, hg5⟩
            replace ho := ho.grown hg5 hR
            replace hg := grown_next hg hg5
            clear hr4 hg5
            obtain ⟨x, hx⟩ : ∃ x, xs[j]? = some x := ⟨_, List.getElem?_eq_getElem (by omega)⟩
            obtain ⟨x1, x2, x3⟩ := x
            obtain ⟨c1, c2, c3⟩ := ho.at_ hx
            simp only at c1 c2 c3
            have f1 := ho.free (j * 3 + 1)
            have HP := Lib.hid (ho.put1 hx u)
            have HR := Lib.hid (hr5.set_ (g := g) (by omega) (j * 3 + 1) (.int .i64 u))
            have HG := Lib.hid (grown_set hg hgb (j * 3 + 1) (.int .i64 u))
            clear hx ho hr5 hg
            go_wp2
            go_ret
            exact ⟨_, c, _, by rw [List.length_set, hxl]; rfl, HP.out, by rw [List.length_set]; omega, HR.out.more (by omega), HG.out⟩
          · have hv1b : (v == 1) = false := by rw [beq_eq_false_iff_ne]; exact hv1
            by_cases hv2 : v = 2
            · subst hv2
              go_wp2_with fail
              refine (rtime_any R (M + 3 + 3 * k + 2) (by omega) _ hr4).mono ?_; rintro e w5 ⟨u, u0, u1, rfl, hr5, hg5⟩
              replace ho := ho.grown hg5 hR
              replace hg := grown_next hg hg5
              clear hr4 hg5
              obtain ⟨x, hx⟩ : ∃ x, xs[j]? = some x := ⟨_, List.getElem?_eq_getElem (by omega)⟩
              obtain ⟨x1, x2, x3⟩ := x
              obtain ⟨c1, c2, c3⟩ := ho.at_ hx
              simp only at c1 c2 c3
              have f1 := ho.free (j * 3 + 2)
              have HP := Lib.hid (ho.put2 hx u)
              have HR := Lib.hid (hr5.set_ (g := g) (by omega) (j * 3 + 2) (.int .i64 u))
              have HG := Lib.hid (grown_set hg hgb (j * 3 + 2) (.int .i64 u))
              clear hx ho hr5 hg
              go_wp2
              go_ret
              exact ⟨_, c, _, by rw [List.length_set, hxl]; rfl, HP.out, by rw [List.length_set]; omega, HR.out.more (by omega), HG.out⟩
            · have hv2b : (v == 2) = false := by rw [beq_eq_false_iff_ne]; exact hv2
              by_cases hv3 : v = 3
              · subst hv3
                go_wp2_with fail
                refine (pick_any R (M + 3 + 3 * k + 2) 2 (by omega) (by omega) (by omega) _ hr4).mono ?_; rintro e w5 ⟨u, u0, u1, rfl, hr5, hg5⟩
                replace ho := ho.grown hg5 hR
                replace hg := grown_next hg hg5
                obtain ⟨hlen1, hlen2⟩ := ho.len
                unfold maxLen at hlen2
                obtain ⟨u, rfl⟩ := Int.eq_ofNat_of_zero_le u0
                have HC := Lib.hid (ho.cut u (by omega))
                have HL := Lib.hid (show u = (xs.take u).length from by simp; omega)
                have hu1 : (u : Int) ≤ (c : Int) := by omega
                clear hr4 hg5 ho
                go_wp2
                go_ret
                exact ⟨_, c, _, by rw [← HL.out]; rfl, HC.out, by rw [← HL.out]; omega, hr5.more (by omega), hg⟩
              · have hv3b : (v == 3) = false := by rw [beq_eq_false_iff_ne]; exact hv3
                go_wp2
                go_ret
                exact ⟨_, c, xs, by rw [hxl]; rfl, ho, by omega, hr4.more (by omega), hg⟩

def DrewT1 (w : World) (e : Ending) (w' : World) : Prop := ∃ (A : Option Addr) (c : Nat) (xs : List Tri), e = .returned (.slice A xs.length c) ∧ OwnT w' w.heap.size A c xs ∧ xs.length ≤ 12 ∧ Below w.heap.size w w'
def DrewT2 (w : World) (e : Ending) (w' : World) : Prop := ∃ (A : Option Addr) (c : Nat) (xs : List Tri) (x : Int), e = .returned (.tuple #[.slice A xs.length c, .int .i64 x]) ∧ OwnT w' w.heap.size A c xs ∧ xs.length ≤ 12 ∧ (-1 ≤ x ∧ x ≤ 64) ∧ Below w.heap.size w w'
def DrewT4 (w : World) (e : Ending) (w' : World) : Prop := ∃ (A : Option Addr) (c : Nat) (xs : List Tri) (x y z : Int), e = .returned (.tuple #[.slice A xs.length c, .int .i64 x, .int .i64 y, .int .i64 z]) ∧ OwnT w' w.heap.size A c xs ∧ xs.length ≤ 12 ∧ (-1 ≤ x ∧ x ≤ 64) ∧ (-1 ≤ y ∧ y ≤ 1000) ∧ (-1 ≤ z ∧ z ≤ 1000) ∧ Below w.heap.size w w'
def DrewT5 (w : World) (e : Ending) (w' : World) : Prop := ∃ (A : Option Addr) (c : Nat) (xs : List Tri) (x t y z : Int), e = .returned (.tuple #[.slice A xs.length c, .int .i64 x, .int .i64 t, .int .i64 y, .int .i64 z]) ∧ OwnT w' w.heap.size A c xs ∧ xs.length ≤ 12 ∧ (-1 ≤ x ∧ x ≤ 64) ∧ (-1 ≤ t ∧ t ≤ 64) ∧ (-1 ≤ y ∧ y ≤ 1000) ∧ (-1 ≤ z ∧ z ≤ 1000) ∧ Below w.heap.size w w'
theorem drawTake_any (A : Option Addr) (c : Nat) (xs : List Int) (w : World) (h : Arg .u8 w A c xs) : Calls Tryd.prog 6 #[.slice A xs.length c] w (DrewT5 w) := by
  have HO := Lib.hid (open_any A c xs w h)
  clear h
  go_enter Tryd.func6, Tryd.ntmps6
  go_wp2_with fail
  refine HO.out.mono ?_; rintro e w1 ⟨rfl, hr1, hb1⟩
  have hR := hr1.lt
  go_wp2_with fail
  refine (leases_any _ 0 (by omega) w1 hr1).mono ?_; rintro e w2 ⟨A', c', ys, rfl, ho, hl, hr2, hg2⟩
  have hB2 := below_reader hb1 (Nat.le_refl _) hg2
  clear hr1 hg2
  go_wp2_with fail
  refine (rpoint_any _ 60 (by omega) _ hr2).mono ?_; rintro e w3 ⟨x, x0, x1, rfl, hr3, hg3⟩
  replace ho := ho.grown hg3 hR
  have hB3 := below_reader hB2 (Nat.le_refl _) hg3
  clear hr2 hg3 hB2
  go_wp2_with fail
  refine (pick_any _ 62 6 (by omega) (by omega) (by omega) _ hr3).mono ?_; rintro e w4 ⟨t, t0, t1, rfl, hr4, hg4⟩
  replace ho := ho.grown hg4 hR
  have hB4 := below_reader hB3 (Nat.le_refl _) hg4
  clear hr3 hg4 hB3
  go_wp2_with fail
  refine (rtime_any _ 63 (by omega) _ hr4).mono ?_; rintro e w5 ⟨y, y0, y1, rfl, hr5, hg5⟩
  replace ho := ho.grown hg5 hR
  have hB5 := below_reader hB4 (Nat.le_refl _) hg5
  clear hr4 hg5 hB4
  go_wp2_with fail
  refine (rtime_any _ 65 (by omega) _ hr5).mono ?_; rintro e w6 ⟨z, z0, z1, rfl, hr6, hg6⟩
  replace ho := ho.grown hg6 hR
  have hB6 := below_reader hB5 (Nat.le_refl _) hg6
  clear hr5 hg6 hB5
  go_wp2_with fail
  exact bodyPost_ret (v := .tuple #[.slice A' ys.length c', .int .i64 (x), .int .i64 (10 * t), .int .i64 (y), .int .i64 (z)]) (by simp [results, Tryd.results6, go_sem]) rfl ⟨A', c', ys, x, 10 * t, y, z, rfl, ho.base hb1.size, hl, ⟨x0, x1⟩, ⟨by omega, by omega⟩, ⟨y0, y1⟩, ⟨z0, z1⟩, hB6⟩
end Go.Proofs.YtkjolmbcafonaaaDoor
