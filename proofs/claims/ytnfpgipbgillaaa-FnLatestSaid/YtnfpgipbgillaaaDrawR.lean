/- Walks: the draws of registers (l91Some, l13Put, RegisterPart, l91Replicas and what is drawn by them): rows of the call's own; nothing that was there before turns. The laws' older and everyone. -/
import Derived.Test.YtnfpgipbgillaaaDraw2
import Derived.Test.YtnfpgipbgillaaaApp
import Derived.Test.YtnfpgipbgillaaaAppT
import Derived.Test.YtnfpgipbgillaaaLatR
import Derived.OwnWalk
namespace Go.Proofs.Ytnfpgipbgillaaa
open Go.RowKit
set_option maxHeartbeats 2000000
set_option linter.unusedVariables false
theorem grown_alloc {w w' : World} {r : Option Nat} (h : w.grownBy w' r) (o : Obj) : w.grownBy (w'.alloc o) r :=
  ⟨h.os, h.tape, h.output, by have := h.size; simp; omega, fun k hk hne => (Below.heap_alloc w' o k (Nat.lt_of_lt_of_le hk h.size)).trans (h.block k hk hne)⟩
theorem Rd.alloc {w : World} {R M : Nat} (h : Rd w R M) (o : Obj) : Rd (w.alloc o) R M := h.keep fun k hk => Below.heap_alloc w o k (Nat.lt_of_le_of_lt hk h.lt)
theorem grown_set {w w' : World} {R g : Nat} (h : w.grownBy w' (some R)) (hg : w.heap.size ≤ g) (i : Nat) (u : Value) : w.grownBy (w'.setCell ⟨g, i, none⟩ u) (some R) :=
  ⟨h.os, h.tape, h.output, by simpa [World.setCell] using h.size, fun k hk hne => (Below.heap_setCell w' ⟨g, i, none⟩ u k (by simp; omega)).trans (h.block k hk hne)⟩
theorem Rd.set_ {w : World} {R M g : Nat} (h : Rd w R M) (hg : R < g) (i : Nat) (u : Value) : Rd (w.setCell ⟨g, i, none⟩ u) R M := h.keep fun k hk => Below.heap_setCell w ⟨g, i, none⟩ u k (by simp; omega)
theorem grown_wide {w w' w'' : World} {R : Nat} {r : Option Nat} (h : w.grownBy w' (some R)) (k : w'.grownBy w'' r) (hr : ∀ b, r = some b → w.heap.size ≤ b) : w.grownBy w'' (some R) :=
  ⟨k.os.trans h.os, k.tape.trans h.tape, k.output.trans h.output, Nat.le_trans h.size k.size, fun b hb hne => (k.block b (Nat.lt_of_lt_of_le hb h.size) (fun e => by have := hr b e.symm; omega)).trans (h.block b hb hne)⟩
theorem Rd.wide {w w' : World} {R M : Nat} {r : Option Nat} {B : Nat} (h : Rd w R M) (k : w.grownBy w' r) (hr : ∀ b, r = some b → B ≤ b) (hB : R < B) : Rd w' R M :=
  h.keep fun b hb => k.block b (Nat.lt_of_le_of_lt hb h.lt) (fun e => by have := hr b e.symm; omega)

def Somed (w : World) (R M n : Nat) (e : Ending) (w' : World) : Prop := ∃ (A : Option Addr) (c : Nat) (zs : List Int), e = .returned (.slice A zs.length c) ∧ OwnI w' w.heap.size A c zs ∧ zs.length ≤ n + 1 ∧ Rd w' R (M + n + 2) ∧ w.grownBy w' (some R)
theorem some_any (R M n : Nat) (hM : M ≤ 80000) (hn : n ≤ 20) (w : World) (h : Rd w R M) : Calls Try.prog 35 #[.pointer (some ⟨R, 0, none⟩), .int .i64 n] w (Somed w R M n) := by
  obtain ⟨i0, hi, hz0, hz1, hz2⟩ := info_parts int_info
  have HI := Lib.hid hi
  have HZ0 := Lib.hid hz0
  have HZ1 := Lib.hid hz1
  have HZ2 := Lib.hid hz2
  clear hi hz0 hz1 hz2
  have hR := h.lt
  have ho0 := Lib.hid (OwnI.empty w (Nat.le_refl w.heap.size))
  have hr0 := Lib.hid (h.alloc (.cells #[] 3))
  have hg0 := Lib.hid (grown_alloc (World.grownBy.refl w (some R)) (.cells #[] 3))
  clear h
  go_enter Try.func35, Try.ntmps35
  go_wp2_with fail
  go_loopw [5, 6] (fun o i wr => ∃ (k m : Nat) (A : Option Addr) (c : Nat) (zs : List Int), k ≤ n ∧ i = .int .i64 k ∧ o = .slice A m c ∧ zs.length = m ∧ m ≤ k ∧ OwnI wr w.heap.size A c zs ∧ Rd wr R (M + k) ∧ w.grownBy wr (some R)) (fun _ i _ => n - (intOf i).toNat)
  case atStart => exact ⟨0, 0, _, _, [], Nat.zero_le _, rfl, rfl, rfl, Nat.zero_le _, ho0.out, hr0.out, hg0.out⟩
  case round =>
    clear ho0 hr0 hg0
    obtain ⟨k, m, A, c, zs, hk, rfl, rfl, hzl, hmk, ho, hr, hg⟩ := hrel
    have HZL := Lib.hid hzl
    clear hzl
    by_cases hlt : k < n
    · go_wp2_with fail
      refine (pick_any R (M + k) 3 (by omega) (by omega) (by omega) _ hr).mono ?_; rintro e w3 ⟨y, y0, y1, rfl, hr3, hg3⟩
      replace ho := ho.grown hg3 hR
      replace hg := grown_next hg hg3
      have hsz := hg.size
      clear hr hg3
      by_cases hy : 0 < y
      · go_wp2_with (at_builtin
                     refine list_app rfl Try.underlying34 HI.out HZ0.out HZ1.out HZ2.out (.tmp 16) (.tmp 18) rfl (base := w.heap.size) (xs := zs) (ys := [(k : Int)]) rfl HZL.out.symm ?_ rfl ?_ ?_ ?_ ?_
                     · exact ho.alloc _
                     · exact SrcI.one_of (hp_new _ _)
                     · (rw [HZL.out]; simp <;> omega)
                     · (simp <;> omega)
                     intro A3 c3 w6 ho6 hg6 hat
                     have hr6 := (hr3.alloc (.cells #[.int .i64 (k : Int)] 3)).wide hg6 ho.row hR
                     have hG6 := grown_wide (grown_alloc hg (.cells #[.int .i64 (k : Int)] 3)) hg6 ho.row
                     have HL6 := Lib.hid (show m + 1 = (zs ++ [(k : Int)]).length from by rw [List.length_append, HZL.out]; rfl))
        go_roundw
        case rel => exact ⟨k + 1, m + 1, A3, c3, _, by omega, by go_num, by rw [HL6.out]; simp, HL6.out.symm, by omega, ho6, hr6.more (by omega), hG6⟩
        case measure => simp [intOf]; omega
      · go_wp2
        go_roundw
        case rel => exact ⟨k + 1, m, A, c, zs, by omega, by go_num, rfl, HZL.out, by omega, ho, hr3.more (by omega), hg⟩
        case measure => simp [intOf]; omega
    · go_wp2_with fail
      refine (pick_any R (M + k) 20 (by omega) (by omega) (by omega) _ hr).mono ?_; rintro e w3 ⟨y, y0, y1, rfl, hr3, hg3⟩
      replace ho := ho.grown hg3 hR
      replace hg := grown_next hg hg3
      clear hr hg3
      by_cases hy : y = 0
      · subst hy
        go_wp2_with fail
        refine (pick_any R (M + k + 1) 7 (by omega) (by omega) (by omega) _ hr3).mono ?_; rintro e w4 ⟨z, z0, z1, rfl, hr4, hg4⟩
        replace ho := ho.grown hg4 hR
        replace hg := grown_next hg hg4
        have hsz := hg.size
        clear hr3 hg4
        go_wp2_with (at_builtin
                     refine list_app rfl Try.underlying34 HI.out HZ0.out HZ1.out HZ2.out (.tmp 23) (.tmp 27) rfl (base := w.heap.size) (xs := zs) (ys := [z - 1]) rfl HZL.out.symm ?_ rfl ?_ ?_ ?_ ?_
                     · exact ho.alloc _
                     · exact SrcI.one_of (hp_new _ _)
                     · (rw [HZL.out]; simp <;> omega)
                     · (simp <;> omega)
                     intro A3 c3 w6 ho6 hg6 hat
                     have hr6 := (hr4.alloc (.cells #[.int .i64 (z - 1)] 3)).wide hg6 ho.row hR
                     have hG6 := grown_wide (grown_alloc hg (.cells #[.int .i64 (z - 1)] 3)) hg6 ho.row
                     have HL6 := Lib.hid (show m + 1 = (zs ++ [z - 1]).length from by rw [List.length_append, HZL.out]; rfl))
        go_ret
        exact ⟨A3, c3, _, by first | rfl | (rw [← HL6.out]; done) | (rw [← HL6.out]; rfl) | (simp [HZL.out]), ho6, by rw [← HL6.out]; omega, hr6.more (by omega), hG6⟩
      · have hy' : (y == 0) = false := by rw [beq_eq_false_iff_ne]; exact hy
        go_wp2
        go_ret
        exact ⟨A, c, zs, by rw [HZL.out]; rfl, ho, by rw [HZL.out]; omega, hr3.more (by omega), hg⟩
theorem OwnI.grow_nums {w w' : World} {base : Nat} {A : Option Addr} {c : Nat} {xs : List Int} (h : OwnI w base A c xs) (hb : Below w.heap.size w w') : NumsAt .i64 w' w'.heap.size A xs := (h.below hb (Nat.le_refl _)).nums
theorem set3_ne' {w : World} {n m j : Nat} {x : Obj} (h : m ≠ n) {a b c : Value} (hx : w.heap[n]? = some x) : (((w.setCell ⟨m, j * 3, none⟩ a).setCell ⟨m, j * 3 + 1, none⟩ b).setCell ⟨m, j * 3 + 2, none⟩ c).heap[n]? = some x := by
  rw [heap_setCell_other _ ⟨m, j * 3 + 2, none⟩ n _ (fun e => h e.symm), heap_setCell_other _ ⟨m, j * 3 + 1, none⟩ n _ (fun e => h e.symm), heap_setCell_other _ ⟨m, j * 3, none⟩ n _ (fun e => h e.symm)]
  exact hx
/-- The reference's l13Put: a row of as many replicas. -/
def PutR (w : World) (n : Nat) (e : Ending) (w' : World) : Prop := ∃ (A : Option Addr) (c : Nat) (zs : List Tri), e = .returned (.slice A n c) ∧ zs.length = n ∧ OwnT w' w.heap.size A c zs ∧ Below w.heap.size w w'
theorem put_any (B : Nat) (A A' : Option Addr) (c c' : Nat) (xs : List Tri) (ss : List Int) (x1 x2 x3 : Int) (h0 : 0 < xs.length) (hx : xs.length ≤ 1000) (hs : ss.length ≤ 1048577) (hset : setOk xs.length ss = true) (w : World) (hB : B ≤ w.heap.size) (h : TrisAt w B A xs) (h' : NumsAt .i64 w B A' ss) :
    Calls Try.prog 44 #[.slice A xs.length c, .slice A' ss.length c', .agg #[.int .i64 x1, .int .i64 x2, .int .i64 x3]] w (PutR w xs.length) := by
  obtain ⟨i0, hi, hz0, hz1, hz2⟩ := info_parts triInfo
  have HI := Lib.hid hi
  have HZ0 := Lib.hid hz0
  have HZ1 := Lib.hid hz1
  have HZ2 := Lib.hid hz2
  clear hi hz0 hz1 hz2
  have hbx : Below w.heap.size w (w.alloc (.cells #[.int .i64 x1, .int .i64 x2, .int .i64 x3] 32 (0, 0))) := (Below.refl _ _).alloc (Nat.le_refl _) _
  have hbz : Below w.heap.size w ((w.alloc (.cells #[.int .i64 x1, .int .i64 x2, .int .i64 x3] 32 (0, 0))).alloc (.cells #[] 32)) := hbx.alloc hbx.size _
  have he := OwnT.empty (w.alloc (.cells #[.int .i64 x1, .int .i64 x2, .int .i64 x3] 32 (0, 0))) (base := w.heap.size + 1) (by simp)
  rw [show (w.alloc (.cells #[.int .i64 x1, .int .i64 x2, .int .i64 x3] 32 (0, 0))).heap.size = w.heap.size + 1 from by simp] at he
  have HE := Lib.hid he
  clear he
  have HXX := Lib.hid (show ((w.alloc (.cells #[.int .i64 x1, .int .i64 x2, .int .i64 x3] 32 (0, 0))).alloc (.cells #[] 32)).heap[w.heap.size]? = some (.cells #[.int .i64 x1, .int .i64 x2, .int .i64 x3] 32 (0, 0)) from (Below.heap_alloc _ _ _ (by simp)).trans (alloc_top w _))
  have HS := Lib.hid ((h.below (hbz.mono hB)).src h0)
  have HBZ := Lib.hid hbz
  have HSET := Lib.hid (fun (k : Nat) (s : Int) (hs : ss[k]? = some s) => setTo_at hset hs)
  have hsl : (ss.length : Int) ≤ 1048577 := by omega
  clear h hbz hbx hset
  go_enter Try.func44, Try.ntmps44
  go_wp2_with (at_builtin; refine list_appT rfl Try.underlying25 HI.out HZ0.out HZ1.out HZ2.out (.tmp 9) (.tmp 10) rfl (xs := []) rfl rfl HE.out rfl HS.out (by simp <;> omega) (by simp <;> omega) ?_; intro A2 c2 w3 ho hg3 hat)
  have hb3 : Below w.heap.size w w3 := Below.grown HBZ.out hg3 (by simp <;> omega) (fun k e => by simp at e; omega)
  have hX := Lib.hid ((hg3.block w.heap.size (by simp; omega) (by simp)).trans HXX.out)
  have HO := Lib.hid (show OwnT w3 (w.heap.size + 1) A2 c2 xs from ho)
  clear HE HXX HS HBZ hg3 hat ho
  go_wp2_with fail
  go_loopw [8] (fun i wr => ∃ (k : Nat) (zs : List Tri), k ≤ ss.length ∧ i = .int .i64 k ∧ zs.length = xs.length ∧ OwnT wr (w.heap.size + 1) A2 c2 zs ∧ wr.heap[w.heap.size]? = some (.cells #[.int .i64 x1, .int .i64 x2, .int .i64 x3] 32 (0, 0)) ∧ Below w.heap.size w wr) (fun i _ => ss.length - (intOf i).toNat)
  case atStart => exact ⟨0, xs, Nat.zero_le _, rfl, rfl, HO.out, hX.out, hb3⟩
  case round =>
    clear HO hX hb3
    obtain ⟨k, zs, hk, rfl, hzl, ho, hX, hb⟩ := hrel
    by_cases hlt : k < ss.length
    · obtain ⟨ab, ao, rfl⟩ := nums_some h' (by omega)
      obtain ⟨s, hs'⟩ : ∃ s, ss[k]? = some s := ⟨_, List.getElem?_eq_getElem hlt⟩
      have d := nums_at (h'.below (hb.mono hB)) hs'
      obtain ⟨s0, s1⟩ := HSET.out k s hs'
      obtain ⟨j, rfl⟩ := Int.eq_ofNat_of_zero_le s0
      obtain ⟨g, rfl⟩ := ho.some_ (by omega)
      obtain ⟨t, ht⟩ : ∃ t, zs[j]? = some t := ⟨_, List.getElem?_eq_getElem (by omega)⟩
      obtain ⟨t1, t2, t3⟩ := t
      obtain ⟨q1, q2, q3⟩ := ho.at_ ht
      simp only at q1 q2 q3
      obtain ⟨e1, e2, e3⟩ := cells3 hX
      have hgb := ho.row g rfl
      have HZL := Lib.hid hzl
      have HT := Lib.hid ht
      have HX := Lib.hid hX
      have HO := Lib.hid ho
      clear hs' ht hX ho hzl
      cases hold : repOlder t1 t2 x1 x2
      · go_wp2_with fail
        go_region_with (go_at_call 42; refine (less_spec t1 t2 t3 x1 x2 x3 _).mono ?_; rw [hold]; rintro e w5 ⟨rfl, hb5⟩)
        all_goals
          replace hb5 := below_undrew hb5
          go_wp2_with fail
          go_roundw
          case rel => exact ⟨k + 1, zs, by omega, by go_num, HZL.out, HO.out.below hb5 (Nat.le_refl _), (hb5.block _ (Array.getElem?_eq_some_iff.1 HX.out).1).trans HX.out, below_next hb hb5⟩
          case measure => simp [intOf]; omega
      · go_wp2_with fail
        go_region_with (go_at_call 42; refine (less_spec t1 t2 t3 x1 x2 x3 _).mono ?_; rw [hold]; rintro e w5 ⟨rfl, hb5⟩)
        all_goals
          replace hb5 := below_undrew hb5
          replace d := (hb5.cell (World.block_lt_of_cell? wr _ d)).trans d
          have hX5 := (hb5.block _ (Array.getElem?_eq_some_iff.1 HX.out).1).trans HX.out
          have ho5 := HO.out.below hb5 (Nat.le_refl _)
          have hB5 := below_next hb hb5
          clear q1 q2 q3 e1 e2 e3
          obtain ⟨q1, q2, q3⟩ := ho5.at_ HT.out
          simp only at q1 q2 q3
          obtain ⟨e1, e2, e3⟩ := cells3 hX5
          have f1 := ho5.free (j * 3)
          have f2 := ho5.free (j * 3 + 1)
          have f3 := ho5.free (j * 3 + 2)
          have HP := Lib.hid (ho5.put3 HT.out x1 x2 x3)
          have HX5 := Lib.hid hX5
          have HB5 := Lib.hid hB5
          clear hX5 ho5 hB5
          go_wp2_with fail
          go_region
          all_goals
            go_wp2
            go_roundw
            case rel =>
              refine ⟨k + 1, zs.set j (x1, x2, x3), by omega, by go_num, by rw [List.length_set]; exact HZL.out, ?_, ?_, ?_⟩
              · exact HP.out
              · exact (set3_ne' (by omega) HX5.out)
              · refine Below.drew ?_
                exact ((HB5.out.setCell (p := ⟨g, j * 3, none⟩) (by simp only; omega) _).setCell (p := ⟨g, j * 3 + 1, none⟩) (by simp only; omega) _).setCell (p := ⟨g, j * 3 + 2, none⟩) (by simp only; omega) _
            case measure => simp [intOf]; omega
    · go_wp2
      go_ret
      exact ⟨A2, c2, zs, rfl, hzl, ho.base (by omega), hb⟩
def PartR (w : World) (n : Nat) (e : Ending) (w' : World) : Prop := ∃ (A : Option Addr) (c : Nat) (zs : List Tri) (ok : Bool), e = .returned (.tuple #[.slice A zs.length c, .bool ok]) ∧ OwnT w' w.heap.size A c zs ∧ (ok = true → zs.length = n) ∧ Below w.heap.size w w'
theorem part_any (B : Nat) (A A' : Option Addr) (c c' : Nat) (xs : List Tri) (ss : List Int) (x1 x2 x3 : Int) (hx : xs.length ≤ c) (hc : c ≤ maxLen) (hs : ss.length ≤ 1048577) (w : World) (hB : B ≤ w.heap.size) (h : TrisAt w B A xs) (h' : NumsAt .i64 w B A' ss) :
    Calls Try.prog 39 #[.slice A xs.length c, .slice A' ss.length c', .agg #[.int .i64 x1, .int .i64 x2, .int .i64 x3]] w (PartR w xs.length) := by
  have hbx : Below w.heap.size w (w.alloc (.cells #[.int .i64 x1, .int .i64 x2, .int .i64 x3] 32 (0, 0))) := (Below.refl _ _).alloc (Nat.le_refl _) _
  have HR := Lib.hid (rv_spec B A c xs hx hc (w.alloc (.cells #[.int .i64 x1, .int .i64 x2, .int .i64 x3] 32 (0, 0))) (by simp; omega) (h.below (hbx.mono hB)))
  have H0 := Lib.hid (alloc_top w (.cells #[.int .i64 x1, .int .i64 x2, .int .i64 x3] 32 (0, 0)))
  have HSP := fun (W : World) (hb : Below w.heap.size w W) => Lib.hid (set_spec B A' c' xs.length ss (by unfold maxLen; omega) (Nat.le_trans hx hc) W (h'.below (hb.mono hB)))
  have hxm : xs.length ≤ maxLen := Nat.le_trans hx hc
  unfold maxLen at hxm
  cases hv : regVal xs
  · clear h h' HSP
    go_enter Try.func39, Try.ntmps39
    go_wp2_with fail
    refine (HR.out).mono ?_; rw [hv]; rintro e w1 ⟨rfl, hb⟩
    have hX := (hb.block w.heap.size (by simp)).trans H0.out
    have hB1 := below_next hbx hb
    clear hb hbx HR H0
    clear hX
    go_wp2
    go_ret2
    exact ⟨_, 0, [], false, rfl, OwnT.empty _ hB1.size, (fun h => by cases h), hB1.alloc hB1.size _⟩
  obtain ⟨hl1, hl5⟩ : 1 ≤ xs.length ∧ xs.length ≤ 5 := by unfold regVal at hv; simp at hv; exact hv.1
  cases hset : setOk xs.length ss
  · clear h h'
    go_enter Try.func39, Try.ntmps39
    go_wp2_with fail
    refine (HR.out).mono ?_; rw [hv]; rintro e w1 ⟨rfl, hb⟩
    have hX := (hb.block w.heap.size (by simp)).trans H0.out
    have hB1 := below_next hbx hb
    clear hb hbx HR H0
    have HS1 := HSP w1 hB1
    have HX := Lib.hid hX
    clear hX HSP
    go_wp2_with fail
    refine (HS1.out).mono ?_; rw [hset]; rintro e w2 ⟨rfl, hd2⟩
    have hX := ((below_draw hd2).block w.heap.size (Array.getElem?_eq_some_iff.1 HX.out).1).trans HX.out
    have hB2 := below_next hB1 (below_draw hd2)
    clear hd2 HS1 HX
    obtain ⟨e1, e2, e3⟩ := cells3 hX
    clear hX e1 e2 e3
    go_wp2
    go_ret2
    exact ⟨_, 0, [], false, rfl, OwnT.empty _ hB2.size, (fun h => by cases h), hB2.alloc hB2.size _⟩
  cases hrep : repOk x1 x2 x3
  · clear h h'
    go_enter Try.func39, Try.ntmps39
    go_wp2_with fail
    refine (HR.out).mono ?_; rw [hv]; rintro e w1 ⟨rfl, hb⟩
    have hX := (hb.block w.heap.size (by simp)).trans H0.out
    have hB1 := below_next hbx hb
    clear hb hbx HR H0
    have HS1 := HSP w1 hB1
    have HX := Lib.hid hX
    clear hX HSP
    go_wp2_with fail
    refine (HS1.out).mono ?_; rw [hset]; rintro e w2 ⟨rfl, hd2⟩
    have hX := ((below_draw hd2).block w.heap.size (Array.getElem?_eq_some_iff.1 HX.out).1).trans HX.out
    have hB2 := below_next hB1 (below_draw hd2)
    clear hd2 HS1 HX
    obtain ⟨e1, e2, e3⟩ := cells3 hX
    have HX := Lib.hid hX
    clear hX
    go_wp2_with fail
    refine (repOk_spec x1 x2 x3 _).mono ?_; rw [hrep]; rintro e w3 ⟨rfl, hb3⟩
    have hX := (hb3.block w.heap.size (Array.getElem?_eq_some_iff.1 HX.out).1).trans HX.out
    have hB3 := below_next hB2 hb3
    clear hb3 HX e1 e2 e3
    obtain ⟨e1, e2, e3⟩ := cells3 hX
    clear hX e1 e2 e3
    go_wp2
    go_ret2
    exact ⟨_, 0, [], false, rfl, OwnT.empty _ hB3.size, (fun h => by cases h), hB3.alloc hB3.size _⟩
  have HPUT := fun (W : World) (hb : Below w.heap.size w W) => Lib.hid (put_any B A A' c c' xs ss x1 x2 x3 (by omega) (by omega) hs hset W (Nat.le_trans hB hb.size) (h.below (hb.mono hB)) (h'.below (hb.mono hB)))
  clear h h'
  go_enter Try.func39, Try.ntmps39
  go_wp2_with fail
  refine (HR.out).mono ?_; rw [hv]; rintro e w1 ⟨rfl, hb⟩
  have hX := (hb.block w.heap.size (by simp)).trans H0.out
  have hB1 := below_next hbx hb
  clear hb hbx HR H0
  have HS1 := HSP w1 hB1
  have HX := Lib.hid hX
  clear hX HSP
  go_wp2_with fail
  refine (HS1.out).mono ?_; rw [hset]; rintro e w2 ⟨rfl, hd2⟩
  have hX := ((below_draw hd2).block w.heap.size (Array.getElem?_eq_some_iff.1 HX.out).1).trans HX.out
  have hB2 := below_next hB1 (below_draw hd2)
  clear hd2 HS1 HX
  obtain ⟨e1, e2, e3⟩ := cells3 hX
  have HX := Lib.hid hX
  clear hX
  go_wp2_with fail
  refine (repOk_spec x1 x2 x3 _).mono ?_; rw [hrep]; rintro e w3 ⟨rfl, hb3⟩
  have hX := (hb3.block w.heap.size (Array.getElem?_eq_some_iff.1 HX.out).1).trans HX.out
  have hB3 := below_next hB2 hb3
  clear hb3 HX e1 e2 e3
  obtain ⟨e1, e2, e3⟩ := cells3 hX
  have HP3 := HPUT w3 hB3
  clear HPUT
  go_wp2_with fail
  refine HP3.out.mono ?_; rintro e w4 ⟨A4, c4, zs, rfl, hzl, ho4, hb4⟩
  have hsz3 := hB3.size
  replace hB3 := below_next hB3 hb4
  have hlen := ho4.len
  have HRV := rv_spec w4.heap.size A4 c4 zs hlen.1 hlen.2 w4 (Nat.le_refl _) ho4.tris
  rw [hzl] at HRV
  have HRV2 := Lib.hid HRV
  have HZL := Lib.hid hzl
  have HO4 := Lib.hid (ho4.base (base' := w.heap.size) hsz3)
  clear hX e1 e2 e3 HP3 hb4 HRV hlen ho4 hzl
  cases hok : regVal zs
  · go_wp2_with fail
    refine HRV2.out.mono ?_; rw [hok]; rintro e w5 ⟨rfl, hb5⟩
    replace hB3 := below_next hB3 hb5
    go_wp2
    go_ret2
    exact ⟨_, 0, [], false, rfl, OwnT.empty _ hB3.size, (fun h => by cases h), hB3.alloc hB3.size _⟩
  · go_wp2_with fail
    refine HRV2.out.mono ?_; rw [hok]; rintro e w5 ⟨rfl, hb5⟩
    go_wp2
    go_ret2
    exact ⟨A4, c4, zs, true, by rw [HZL.out]; rfl, HO4.out.below hb5 (Nat.le_refl _), fun _ => HZL.out, below_next hB3 hb5⟩
theorem made_flat {N : Nat} (h1 : 1 ≤ N) (h2 : N ≤ 5) : (madeCells (Value.agg #[.int .i64 0, .int .i64 0, .int .i64 0]).cells (N * 3)).toList = flat (List.replicate N (0, 0, 0)) := by
  have h : (Value.agg #[.int .i64 0, .int .i64 0, .int .i64 0]).cells = #[.int .i64 0, .int .i64 0, .int .i64 0] := by first | rfl | kernel_rfl
  rw [h]
  rcases (by omega : N = 1 ∨ N = 2 ∨ N = 3 ∨ N = 4 ∨ N = 5) with rfl | rfl | rfl | rfl | rfl <;> simp [madeCells, flat, tcells, List.range, List.range.loop, List.replicate]
def Reps (w : World) (R M : Nat) (e : Ending) (w' : World) : Prop := ∃ (A : Option Addr) (c : Nat) (xs : List Tri), e = .returned (.slice A xs.length c) ∧ OwnT w' w.heap.size A c xs ∧ xs.length ≤ 10 ∧ Rd w' R (M + 300) ∧ w.grownBy w' (some R)
theorem cellsT {W : World} {n : Nat} {x1 x2 x3 : Int} (h : W.heap[n]? = some (.cells #[.int .i64 x1, .int .i64 x2, .int .i64 x3] 32 (0, 0))) (W' : World) (hb : W'.heap[n]? = W.heap[n]?) : W'.cell? ⟨n, 0, none⟩ = some (.int .i64 x1) ∧ W'.cell? ⟨n, 1, none⟩ = some (.int .i64 x2) ∧ W'.cell? ⟨n, 2, none⟩ = some (.int .i64 x3) := cells3 (hb.trans h)
theorem reps_any (R M : Nat) (hM : M ≤ 70000) (w : World) (h : Rd w R M) : Calls Try.prog 29 #[.pointer (some ⟨R, 0, none⟩)] w (Reps w R M) := by
  obtain ⟨i0, hi, hz0, hz1, hz2⟩ := info_parts triInfo
  have HI := Lib.hid hi
  have HZ0 := Lib.hid hz0
  have HZ1 := Lib.hid hz1
  have HZ2 := Lib.hid hz2
  clear hi hz0 hz1 hz2
  have hR := h.lt
  go_enter Try.func29, Try.ntmps29
  go_wp2_with fail
  refine (pick_any R M 5 (by omega) (by omega) (by omega) _ h).mono ?_; rintro e w1 ⟨p, p0, p1, rfl, hr1, hg1⟩
  clear h
  obtain ⟨N, hN, N1, N2⟩ : ∃ N : Nat, 1 + p = (N : Int) ∧ 1 ≤ N ∧ N ≤ 5 := ⟨(1 + p).toNat, by omega, by omega, by omega⟩
  have hsz1 := hg1.size
  go_wp2_with (at_make; refine wpList_make_full w1 rfl _ _ _ rfl w.heap.size 32 i0 (.agg #[.int .i64 0, .int .i64 0, .int .i64 0]) 3 Try.underlying25 HI.out HZ0.out HZ1.out .i64 .i64 _ _ N rfl rfl (by first | rfl | exact hN) (by first | rfl | exact hN) (by rw [HZ2.out]; omega) (by unfold maxLen; omega) hsz1 ?_; intro w2 hown2 hg2)
  have ho : OwnT w2 w.heap.size (some ⟨w1.heap.size, 0, none⟩) N (List.replicate N (0, 0, 0)) := by
    unfold OwnT
    rw [List.length_replicate, ← made_flat N1 N2]; exact hown2
  have hr := hr1.wide hg2 (B := R + 1) (fun b e => by cases e) (Nat.lt_succ_self _)
  have hg := grown_wide hg1 hg2 (fun b e => by cases e)
  have HO := Lib.hid ho
  have HRR := Lib.hid hr
  have HGG := Lib.hid hg
  clear hN hown2 hg2 hr1 hg1 ho hr hg hsz1
  go_wp2_with fail
  go_loopw [3, 4] (fun o i wr => ∃ (k : Nat) (A : Option Addr) (c : Nat) (xs : List Tri), k ≤ 5 ∧ i = .int .i64 k ∧ o = .slice A N c ∧ xs.length = N ∧ OwnT wr w.heap.size A c xs ∧ Rd wr R (M + 10 + 40 * k) ∧ w.grownBy wr (some R)) (fun _ i _ => 5 - (intOf i).toNat)
  case atStart => exact ⟨0, _, _, _, by omega, rfl, rfl, List.length_replicate, HO.out, HRR.out.more (by omega), HGG.out⟩
  case round =>
    clear HO HRR HGG
    obtain ⟨k, A, c, xs, hk, rfl, rfl, hxl, ho, hr, hg⟩ := hrel
    have HXL := Lib.hid hxl
    clear hxl
    go_wp2_with fail
    refine (pick_any R (M + 10 + 40 * k) 6 (by omega) (by omega) (by omega) _ hr).mono ?_; rintro e w3 ⟨y, y0, y1, rfl, hr3, hg3⟩
    replace ho := ho.grown hg3 hR
    replace hg := grown_next hg hg3
    clear hr hg3
    by_cases hlt : (k : Int) < y
    · go_wp2_with fail
      refine (pick_any R (M + 10 + 40 * k + 1) 3 (by omega) (by omega) (by omega) _ hr3).mono ?_; rintro e w4 ⟨a, a0, a1, rfl, hr4, hg4⟩
      replace ho := ho.grown hg4 hR
      replace hg := grown_next hg hg4
      clear hr3 hg4
      go_wp2_with fail
      refine (pick_any R (M + 10 + 40 * k + 2) 3 (by omega) (by omega) (by omega) _ hr4).mono ?_; rintro e w5 ⟨b, b0, b1, rfl, hr5, hg5⟩
      replace ho := ho.grown hg5 hR
      replace hg := grown_next hg hg5
      clear hr4 hg5
      go_wp2_with fail
      refine (pick_any R (M + 10 + 40 * k + 3) 100 (by omega) (by omega) (by omega) _ hr5).mono ?_; rintro e w6 ⟨d, d0, d1, rfl, hr6, hg6⟩
      have hR6 := hr6.lt
      replace ho := (ho.grown hg6 hR).alloc (.cells #[.int .i64 (1 + a), .int .i64 b, .int .i64 d] 32 (0, 0))
      replace hg := grown_alloc (grown_next hg hg6) (.cells #[.int .i64 (1 + a), .int .i64 b, .int .i64 d] 32 (0, 0))
      replace hr6 := hr6.alloc (.cells #[.int .i64 (1 + a), .int .i64 b, .int .i64 d] 32 (0, 0))
      have hT := alloc_top w6 (.cells #[.int .i64 (1 + a), .int .i64 b, .int .i64 d] 32 (0, 0))
      have hlt6 : w6.heap.size < (w6.alloc (.cells #[.int .i64 (1 + a), .int .i64 b, .int .i64 d] 32 (0, 0))).heap.size := by simp
      clear hr5 hg6
      have HT := Lib.hid hT
      clear hT
      go_wp2_with fail
      generalize w6.alloc (.cells #[.int .i64 (1 + a), .int .i64 b, .int .i64 d] 32 (0, 0)) = W6 at ho hg hr6 HT hlt6 ⊢
      obtain ⟨e1, e2, e3⟩ := cells3 HT.out
      generalize 1 + a = v at HT e1 ⊢
      have HO := Lib.hid ho
      have HG := Lib.hid hg
      have HR6 := Lib.hid hr6
      clear ho hg hr6
      go_region_with (first
        | (go_at_call 35
           refine (some_any R (M + 10 + 40 * k + 4) N (by omega) (by omega) _ ?_).mono ?_
           · exact HR6.out.drewN 1
           rintro e w7 ⟨As, cs, zs, rfl, hi7, hz7, hr7, hg7'⟩
           have hg7 : W6.grownBy w7 (some R) := ⟨hg7'.os, hg7'.tape, hg7'.output, hg7'.size, hg7'.block⟩
           clear hg7'
           have ho7 := HO.out.grown hg7 hR
           obtain ⟨q1, q2, q3⟩ := cellsT HT.out w7 (hg7.block _ hlt6 (by simp; omega))
           have hG7 := grown_next HG.out hg7
           have hlen7 := ho7.len
           have HXX := HXL.out
           have hPA := part_any w7.heap.size A As c cs xs zs v b d hlen7.1 hlen7.2 (by omega) w7 (Nat.le_refl _) ho7.tris hi7.nums
           rw [HXL.out] at hPA
           have HPA := Lib.hid hPA
           have HO7 := Lib.hid ho7
           have HR7 := Lib.hid hr7
           clear hPA hlen7 ho7 hr7 hi7 hg7 HXX e1 e2 e3)
        | (go_at_call 39
           refine HPA.out.mono ?_
           rintro e w8 ⟨A8, c8, zs8, ok, rfl, ho8, hok8, hb8⟩
           have hr8 := HR7.out.below hb8 HR7.out.lt
           have ho9 := HO7.out.below hb8 (Nat.le_refl _)
           have hG8 := below_of_grown hG7 hb8
           replace ho8 := ho8.base (base' := w.heap.size) hG7.size
           clear hb8 HPA q1 q2 q3))
      all_goals
        cases ok
        · go_wp2_with fail
          go_roundw
          case rel => exact ⟨k + 1, A, c, xs, by omega, by go_num, rfl, HXL.out, ho9, hr8.more (by omega), hG8⟩
          case measure => simp [intOf]; omega
        · have hz8 := hok8 rfl
          rw [hz8]
          go_wp2_with fail
          go_roundw
          case rel => exact ⟨k + 1, A8, c8, zs8, by omega, by go_num, rfl, hz8, ho8, hr8.more (by omega), hG8⟩
          case measure => simp [intOf]; omega
    · obtain ⟨g, rfl⟩ := ho.some_ (by rw [HXL.out]; omega)
      have hgb : w.heap.size ≤ g := ho.row g rfl
      go_wp2_with fail
      refine (pick_any R (M + 10 + 40 * k + 1) N (by omega) (by omega) (by omega) _ hr3).mono ?_; rintro e w4 ⟨j, j0, j1, rfl, hr4, hg4⟩
      replace ho := ho.grown hg4 hR
      replace hg := grown_next hg hg4
      clear hr3 hg4
      obtain ⟨j, rfl⟩ := Int.eq_ofNat_of_zero_le j0
      have hj : j < N := by omega
      go_wp2_with fail
      refine (pick_any R (M + 10 + 40 * k + 2) 20 (by omega) (by omega) (by omega) _ hr4).mono ?_; rintro e w5 ⟨v, v0, v1, rfl, hr5, hg5⟩
      replace ho := ho.grown hg5 hR
      replace hg := grown_next hg hg5
      have hsz5 := hg.size
      clear hr4 hg5
      obtain ⟨x, hx⟩ : ∃ x, xs[j]? = some x := ⟨_, List.getElem?_eq_getElem (by rw [HXL.out]; exact hj)⟩
      obtain ⟨x1, x2, x3⟩ := x
      by_cases hv0 : v = 0
      · subst hv0
        have ho5 := ho.alloc (.cells #[.int .i64 (-1), .int .i64 0, .int .i64 98, .int .i64 99, .int .i64 100] 3 (0, 0))
        have hr5a := hr5.alloc (.cells #[.int .i64 (-1), .int .i64 0, .int .i64 98, .int .i64 99, .int .i64 100] 3 (0, 0))
        have hg5a := grown_alloc hg (.cells #[.int .i64 (-1), .int .i64 0, .int .i64 98, .int .i64 99, .int .i64 100] 3 (0, 0))
        have HT5 := Lib.hid (heap_alloc_new w5 (.cells #[.int .i64 (-1), .int .i64 0, .int .i64 98, .int .i64 99, .int .i64 100] 3 (0, 0)))
        have hR5 := hr5.lt
        clear ho hr5 hg
        go_wp2_with fail
        refine (pick_any R (M + 10 + 40 * k + 3) 5 (by omega) (by omega) (by omega) _ hr5a).mono ?_; rintro e w6 ⟨y, y0, y1, rfl, hr6, hg6⟩
        have hb := (hg6.block w5.heap.size (by simp) (by simp; omega)).trans HT5.out
        replace ho5 := ho5.grown hg6 hR
        replace hg5a := grown_next hg5a hg6
        clear hr5a hg6
        have k0 : w6.cell? ⟨w5.heap.size, 0, none⟩ = some (.int .i64 (-1)) := by rw [cell_of_row _ _ _ _ _ _ hb]; rfl
        have k1 : w6.cell? ⟨w5.heap.size, 1, none⟩ = some (.int .i64 0) := by rw [cell_of_row _ _ _ _ _ _ hb]; rfl
        have k2 : w6.cell? ⟨w5.heap.size, 2, none⟩ = some (.int .i64 98) := by rw [cell_of_row _ _ _ _ _ _ hb]; rfl
        have k3 : w6.cell? ⟨w5.heap.size, 3, none⟩ = some (.int .i64 99) := by rw [cell_of_row _ _ _ _ _ _ hb]; rfl
        have k4 : w6.cell? ⟨w5.heap.size, 4, none⟩ = some (.int .i64 100) := by rw [cell_of_row _ _ _ _ _ _ hb]; rfl
        clear hb HT5
        rcases (by omega : y = 0 ∨ y = 1 ∨ y = 2 ∨ y = 3 ∨ y = 4) with rfl | rfl | rfl | rfl | rfl
        · obtain ⟨c1, c2, c3⟩ := ho5.at_ hx
          simp only at c1 c2 c3
          have f1 := ho5.free (j * 3)
          have HP := Lib.hid (ho5.put0 hx (-1))
          have HR := Lib.hid (hr6.set_ (g := g) (by omega) (j * 3) (.int .i64 (-1)))
          have HG := Lib.hid (grown_set hg5a hgb (j * 3) (.int .i64 (-1)))
          clear hx ho5 hr6 hg5a
          go_wp2
          go_ret
          exact ⟨_, c, _, by rw [List.length_set, HXL.out]; rfl, HP.out, by rw [List.length_set, HXL.out]; omega, HR.out.more (by omega), HG.out⟩
        · obtain ⟨c1, c2, c3⟩ := ho5.at_ hx
          simp only at c1 c2 c3
          have f1 := ho5.free (j * 3)
          have HP := Lib.hid (ho5.put0 hx 0)
          have HR := Lib.hid (hr6.set_ (g := g) (by omega) (j * 3) (.int .i64 0))
          have HG := Lib.hid (grown_set hg5a hgb (j * 3) (.int .i64 0))
          clear hx ho5 hr6 hg5a
          go_wp2
          go_ret
          exact ⟨_, c, _, by rw [List.length_set, HXL.out]; rfl, HP.out, by rw [List.length_set, HXL.out]; omega, HR.out.more (by omega), HG.out⟩
        · obtain ⟨c1, c2, c3⟩ := ho5.at_ hx
          simp only at c1 c2 c3
          have f1 := ho5.free (j * 3)
          have HP := Lib.hid (ho5.put0 hx 98)
          have HR := Lib.hid (hr6.set_ (g := g) (by omega) (j * 3) (.int .i64 98))
          have HG := Lib.hid (grown_set hg5a hgb (j * 3) (.int .i64 98))
          clear hx ho5 hr6 hg5a
          go_wp2
          go_ret
          exact ⟨_, c, _, by rw [List.length_set, HXL.out]; rfl, HP.out, by rw [List.length_set, HXL.out]; omega, HR.out.more (by omega), HG.out⟩
        · obtain ⟨c1, c2, c3⟩ := ho5.at_ hx
          simp only at c1 c2 c3
          have f1 := ho5.free (j * 3)
          have HP := Lib.hid (ho5.put0 hx 99)
          have HR := Lib.hid (hr6.set_ (g := g) (by omega) (j * 3) (.int .i64 99))
          have HG := Lib.hid (grown_set hg5a hgb (j * 3) (.int .i64 99))
          clear hx ho5 hr6 hg5a
          go_wp2
          go_ret
          exact ⟨_, c, _, by rw [List.length_set, HXL.out]; rfl, HP.out, by rw [List.length_set, HXL.out]; omega, HR.out.more (by omega), HG.out⟩
        · obtain ⟨c1, c2, c3⟩ := ho5.at_ hx
          simp only at c1 c2 c3
          have f1 := ho5.free (j * 3)
          have HP := Lib.hid (ho5.put0 hx 100)
          have HR := Lib.hid (hr6.set_ (g := g) (by omega) (j * 3) (.int .i64 100))
          have HG := Lib.hid (grown_set hg5a hgb (j * 3) (.int .i64 100))
          clear hx ho5 hr6 hg5a
          go_wp2
          go_ret
          exact ⟨_, c, _, by rw [List.length_set, HXL.out]; rfl, HP.out, by rw [List.length_set, HXL.out]; omega, HR.out.more (by omega), HG.out⟩
      have hv0b : (v == 0) = false := by rw [beq_eq_false_iff_ne]; exact hv0
      by_cases hv1 : v = 1
      · subst hv1
        go_wp2_with fail
        refine (pick_any R (M + 10 + 40 * k + 3) 102 (by omega) (by omega) (by omega) _ hr5).mono ?_; rintro e w6 ⟨u, u0, u1, rfl, hr6, hg6⟩
        replace ho := ho.grown hg6 hR
        replace hg := grown_next hg hg6
        clear hr5 hg6
        obtain ⟨c1, c2, c3⟩ := ho.at_ hx
        simp only at c1 c2 c3
        have f1 := ho.free (j * 3 + 2)
        have HP := Lib.hid (ho.put2 hx (u - 1))
        have HR := Lib.hid (hr6.set_ (g := g) (by omega) (j * 3 + 2) (.int .i64 (u - 1)))
        have HG := Lib.hid (grown_set hg hgb (j * 3 + 2) (.int .i64 (u - 1)))
        clear hx ho hr6 hg
        go_wp2
        go_ret
        exact ⟨_, c, _, by rw [List.length_set, HXL.out]; rfl, HP.out, by rw [List.length_set, HXL.out]; omega, HR.out.more (by omega), HG.out⟩
      have hv1b : (v == 1) = false := by rw [beq_eq_false_iff_ne]; exact hv1
      by_cases hv2 : v = 2
      · subst hv2
        have HSR := Lib.hid (ho.tris.src (by rw [HXL.out]; omega))
        rw [HXL.out] at HSR
        go_wp2_with (at_builtin; refine list_appT rfl Try.underlying25 HI.out HZ0.out HZ1.out HZ2.out (.tmp 67) (.tmp 68) rfl (xs := xs) rfl HXL.out.symm ho rfl HSR.out (by rw [HXL.out]; omega) hsz5 ?_; intro A6 c6 w6 ho6 hg6 hat)
        have hr6 := hr5.wide hg6 ho.row hR
        have hG6 := grown_wide hg hg6 ho.row
        go_ret
        exact ⟨A6, c6, xs ++ xs, by first | rfl | (simp; done), ho6, by rw [List.length_append, HXL.out]; omega, hr6.more (by omega), hG6⟩
      have hv2b : (v == 2) = false := by rw [beq_eq_false_iff_ne]; exact hv2
      by_cases hv3 : v = 3
      · subst hv3
        go_wp2_with fail
        refine (rpoint_any R (M + 10 + 40 * k + 3) (by omega) _ hr5).mono ?_; rintro e w6 ⟨u, u0, u1, rfl, hr6, hg6⟩
        replace ho := ho.grown hg6 hR
        replace hg := grown_next hg hg6
        clear hr5 hg6
        obtain ⟨c1, c2, c3⟩ := ho.at_ hx
        simp only at c1 c2 c3
        have f1 := ho.free (j * 3 + 1)
        have HP := Lib.hid (ho.put1 hx u)
        have HR := Lib.hid (hr6.set_ (g := g) (by omega) (j * 3 + 1) (.int .i64 u))
        have HG := Lib.hid (grown_set hg hgb (j * 3 + 1) (.int .i64 u))
        clear hx ho hr6 hg
        go_wp2
        go_ret
        exact ⟨_, c, _, by rw [List.length_set, HXL.out]; rfl, HP.out, by rw [List.length_set, HXL.out]; omega, HR.out.more (by omega), HG.out⟩
      have hv3b : (v == 3) = false := by rw [beq_eq_false_iff_ne]; exact hv3
      go_wp2
      go_ret
      exact ⟨_, c, xs, by rw [HXL.out]; rfl, ho, by rw [HXL.out]; omega, hr5.more (by omega), hg⟩

def DrewR1 (w : World) (e : Ending) (w' : World) : Prop := ∃ (A : Option Addr) (c : Nat) (xs : List Tri), e = .returned (.slice A xs.length c) ∧ OwnT w' w.heap.size A c xs ∧ xs.length ≤ 10 ∧ Below w.heap.size w w'
def DrewR2 (w : World) (e : Ending) (w' : World) : Prop := ∃ (A : Option Addr) (c : Nat) (xs : List Tri) (A2 : Option Addr) (c2 : Nat) (ss : List Int), e = .returned (.tuple #[.slice A xs.length c, .slice A2 ss.length c2]) ∧ OwnT w' w.heap.size A c xs ∧ OwnI w' w.heap.size A2 c2 ss ∧ xs.length ≤ 10 ∧ ss.length ≤ 11 ∧ Below w.heap.size w w'
theorem drawRv_any (A : Option Addr) (c : Nat) (xs : List Int) (w : World) (h : Arg .u8 w A c xs) : Calls Try.prog 14 #[.slice A xs.length c] w (DrewR1 w) := by
  have HO := Lib.hid (open_any A c xs w h)
  clear h
  go_enter Try.func14, Try.ntmps14
  go_wp2_with fail
  refine HO.out.mono ?_; rintro e w1 ⟨rfl, hr1, hb1⟩
  go_wp2_with fail
  refine (reps_any _ 0 (by omega) w1 hr1).mono ?_; rintro e w2 ⟨A', c', ys, rfl, ho, hl, hr2, hg2⟩
  go_wp2
  go_ret
  exact ⟨A', c', ys, rfl, ho.base hb1.size, hl, below_reader hb1 (Nat.le_refl _) hg2⟩
theorem drawRl_any (A : Option Addr) (c : Nat) (xs : List Int) (w : World) (h : Arg .u8 w A c xs) : Calls Try.prog 20 #[.slice A xs.length c] w (DrewR2 w) := by
  have HO := Lib.hid (open_any A c xs w h)
  clear h
  go_enter Try.func20, Try.ntmps20
  go_wp2_with fail
  refine HO.out.mono ?_; rintro e w1 ⟨rfl, hr1, hb1⟩
  have hR := hr1.lt
  go_wp2_with fail
  refine (reps_any _ 0 (by omega) w1 hr1).mono ?_; rintro e w2 ⟨A', c', ys, rfl, ho, hl, hr2, hg2⟩
  have hB2 := below_reader hb1 (Nat.le_refl _) hg2
  clear hr1 hg2
  go_wp2_with fail
  refine (some_any _ 300 ys.length (by omega) (by omega) _ hr2).mono ?_; rintro e w3 ⟨A2, c2, zs, rfl, hi, hz, hr3, hg3⟩
  go_wp2
  go_ret2
  exact ⟨A', c', ys, A2, c2, zs, rfl, (ho.grown hg3 hR).base hb1.size, hi.base hB2.size, hl, by omega, below_reader hB2 (Nat.le_refl _) hg3⟩
theorem lolder_any (v r x v' r' x' : Int) (w : World) : Calls Try.prog 21 #[.agg #[.int .i64 v, .int .i64 r, .int .i64 x], .agg #[.int .i64 v', .int .i64 r', .int .i64 x']] w fun e w' => e = .returned (.bool (repOlder v r v' r')) ∧ Below w.heap.size w w' := by
  have hB2 : ∀ X Y : Obj, Below w.heap.size w ((w.alloc X).alloc Y) := fun X Y => ((Below.refl _ _).alloc (Nat.le_refl _) _).alloc (by simp) _
  by_cases h1 : v < v'
  · have HR := Lib.hid (show repOlder v r v' r' = true from by simp [repOlder, h1])
    go_enter Try.func21, Try.ntmps21
    go_wp2
    go_ret
    exact ⟨ret_bool HR.out.symm, hB2 _ _⟩
  · by_cases h2 : v = v'
    · subst h2
      have HR := Lib.hid (show repOlder v r v r' = decide (r < r') from by simp [repOlder])
      go_enter Try.func21, Try.ntmps21
      go_wp2
      go_ret
      exact ⟨ret_bool (by rw [HR.out]), hB2 _ _⟩
    · have h2b : (v == v') = false := by rw [beq_eq_false_iff_ne]; exact h2
      have HR := Lib.hid (show repOlder v r v' r' = false from by simp [repOlder, h1, h2])
      go_enter Try.func21, Try.ntmps21
      go_wp2
      go_ret
      exact ⟨ret_bool HR.out.symm, hB2 _ _⟩
theorem everyone_any (n : Nat) (hn : n ≤ 1000) (w : World) : Calls Try.prog 22 #[.int .i64 n] w fun e w' => ∃ (A : Option Addr) (c : Nat), e = .returned (.slice A n c) ∧ OwnI w' w.heap.size A c ((List.range n).map (fun (j : Nat) => (j : Int))) ∧ Below w.heap.size w w' := by
  obtain ⟨i0, hi, hz0, hz1, hz2⟩ := info_parts int_info
  have HI := Lib.hid hi
  have HZ0 := Lib.hid hz0
  have HZ1 := Lib.hid hz1
  have HZ2 := Lib.hid hz2
  clear hi hz0 hz1 hz2
  have ho0 := Lib.hid (OwnI.empty w (Nat.le_refl w.heap.size))
  have hb0 := Lib.hid (show Below w.heap.size w (w.alloc (.cells #[] 3)) from (Below.refl _ _).alloc (Nat.le_refl _) _)
  go_enter Try.func22, Try.ntmps22
  go_wp2_with fail
  go_loopw [3, 4] (fun o i wr => ∃ (k : Nat) (A : Option Addr) (c : Nat), k ≤ n ∧ i = .int .i64 k ∧ o = .slice A k c ∧ OwnI wr w.heap.size A c ((List.range k).map (fun (j : Nat) => (j : Int))) ∧ Below w.heap.size w wr) (fun _ i _ => n - (intOf i).toNat)
  case atStart => exact ⟨0, _, _, Nat.zero_le _, rfl, rfl, ho0.out, hb0.out⟩
  case round =>
    clear ho0 hb0
    obtain ⟨k, A, c, hk, rfl, rfl, ho, hb⟩ := hrel
    have hsz := hb.size
    by_cases hlt : k < n
    · have HL := Lib.hid (show k = ((List.range k).map (fun (j : Nat) => (j : Int))).length from by simp)
      have HS := Lib.hid (show (List.range (k + 1)).map (fun (j : Nat) => (j : Int)) = (List.range k).map (fun (j : Nat) => (j : Int)) ++ [(k : Int)] from by rw [List.range_succ, List.map_append]; rfl)
      generalize hzs : (List.range k).map (fun (j : Nat) => (j : Int)) = zs at ho HL HS
      have HZ := Lib.hid hzs
      clear hzs
      go_wp2_with (at_builtin
                   refine list_app rfl Try.underlying34 HI.out HZ0.out HZ1.out HZ2.out (.tmp 11) (.tmp 13) rfl (base := w.heap.size) (xs := zs) (ys := [(k : Int)]) rfl HL.out ?_ rfl ?_ ?_ ?_ ?_
                   · exact ho.alloc _
                   · exact SrcI.one_of (hp_new _ _)
                   · (rw [← HL.out]; simp <;> omega)
                   · (simp <;> omega)
                   intro A3 c3 w6 ho6 hg6 hat
                   have hb6 : Below w.heap.size w w6 := Below.grown (hb.alloc hsz (.cells #[.int .i64 (k : Int)] 3)) hg6 (by simp <;> omega) ho.row
                   have HL6 := Lib.hid (show k + 1 = (zs ++ [(k : Int)]).length from by rw [List.length_append, ← HL.out]; rfl))
      go_roundw
      case rel => exact ⟨k + 1, A3, c3, by omega, by go_num, by rw [HL6.out]; simp, by rw [HS.out]; exact ho6, hb6⟩
      case measure => simp [intOf]; omega
    · have : k = n := by omega
      subst this
      go_wp2
      go_ret
      exact ⟨A, c, rfl, ho, hb⟩
end Go.Proofs.Ytnfpgipbgillaaa
