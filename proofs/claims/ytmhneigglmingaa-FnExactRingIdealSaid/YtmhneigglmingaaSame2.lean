/- Walks: slices.Equal, slices.EqualFunc over nodes, sameRing of the implementation; l3SameNode, l3Same of the reference. -/
import Derived.Test.YtmhneigglmingaaNodeQ
namespace Go.Proofs.Ytmhneigglmingaa
open Go.RowKit
set_option maxHeartbeats 2000000
set_option linter.unusedVariables false
theorem equal_any (B : Nat) (A A' : Option Addr) (c c' : Nat) (xs ys : List Int) (hlx : xs.length ≤ maxLen) (hly : ys.length ≤ maxLen) (w : World) (h : NumsAt .i64 w B A xs) (h' : NumsAt .i64 w B A' ys) :
    Calls Try.prog 62 #[.slice A xs.length c, .slice A' ys.length c'] w fun e w' => e = .returned (.bool (decide (xs = ys))) ∧ Below w.heap.size w w' := by
  unfold maxLen at hlx hly
  by_cases hl : xs.length = ys.length
  · have hl' : ((xs.length : Int) != (ys.length : Int)) = false := by simp; omega
    have HL := Lib.hid hl
    clear hl
    go_enter Try.func62, Try.ntmps62
    go_wp2
    go_loopw [13] (fun i wr => ∃ k : Nat, k ≤ xs.length ∧ i = .int .i64 k ∧ eqTo xs ys k ∧ ∃ n, wr = w.drewN n) (fun i _ => xs.length - (intOf i).toNat)
    case atStart => exact ⟨0, Nat.zero_le _, rfl, fun i hi => absurd hi (by omega), 0, rfl⟩
    case round =>
      obtain ⟨k, hk, rfl, hall, hw⟩ := hrel
      have Hall := Lib.hid hall
      have HW := Lib.hid hw
      replace h : NumsAt .i64 wr B A xs := by obtain ⟨n, rfl⟩ := hw; exact h.drewN n
      replace h' : NumsAt .i64 wr B A' ys := by obtain ⟨n, rfl⟩ := hw; exact h'.drewN n
      clear hall hw
      by_cases hlt : k < xs.length
      · have hlt' : k < ys.length := by have := HL.out; omega
        obtain ⟨ad, x, rfl, -, hx, hc⟩ := h k hlt
        obtain ⟨ad', y, rfl, -, hy, hc'⟩ := h' k hlt'
        have HX := Lib.hid hx
        have HY := Lib.hid hy
        clear h h' hx hy
        by_cases hxy : x = y
        · subst hxy
          go_wp2
          go_quiet (fail)
          go_wp2
          go_roundw
          case rel => exact ⟨k + 1, by omega, by go_num, eqTo_step Hall.out HX.out HY.out, drewN_more HW.out⟩
          case measure => simp [intOf]; omega
        · have hne : (x != y) = true := by simpa using hxy
          have HN := Lib.hid (show decide (xs = ys) = false from by
            rw [decide_eq_false_iff_not]; intro e; rw [e, HY.out] at HX; injection HX.out with e'; exact hxy e'.symm)
          go_wp2
          go_quiet (fail)
          go_wp2
          go_ret
          exact ⟨ret_bool HN.out.symm, below_draw (drewN_more HW.out)⟩
      · clear h h'
        have HE := Lib.hid (show decide (xs = ys) = true from by
          rw [decide_eq_true_iff]; refine eqTo_end HL.out ?_; have : k = xs.length := by omega
          rw [← this]; exact Hall.out)
        go_wp2
        go_ret
        exact ⟨ret_bool HE.out.symm, below_draw HW.out⟩
  · have hl' : ((xs.length : Int) != (ys.length : Int)) = true := by simp; omega
    have HN := Lib.hid (show decide (xs = ys) = false from by rw [decide_eq_false_iff_not]; intro e; rw [e] at hl; exact hl rfl)
    clear hl
    go_enter Try.func62, Try.ntmps62
    go_wp2
    go_ret
    exact ⟨ret_bool HN.out.symm, Below.refl _ _⟩
theorem same_dec (x1 x2 y1 y2 : Int) (l m : List Int) : decide (((x1, x2, l) : Nod) = (y1, y2, m)) = (decide (x1 = y1) && (decide (x2 = y2) && decide (l = m))) := by
  rw [Bool.eq_iff_iff]; simp
theorem sameFn_any (x1 x2 y1 y2 : Int) (A A' : Option Addr) (c c' : Nat) (l m : List Int) (hl : l.length ≤ 1048576) (hm : m.length ≤ 1048576) (w : World) (h : NumsAt .i64 w w.heap.size A l) (h' : NumsAt .i64 w w.heap.size A' m) :
    Calls Try.prog 61 #[.agg #[.int .i64 x1, .int .i64 x2, .slice A l.length c], .agg #[.int .i64 y1, .int .i64 y2, .slice A' m.length c']] w fun e w' => e = .returned (.bool (decide (((x1, x2, l) : Nod) = (y1, y2, m)))) ∧ Below w.heap.size w w' := by
  have hb0 : Below w.heap.size w ((w.alloc (.cells #[.int .i64 x1, .int .i64 x2, .slice A l.length c] 41 (0, 0))).alloc (.cells #[.int .i64 y1, .int .i64 y2, .slice A' m.length c'] 41 (0, 0))) :=
    ((Below.refl _ _).alloc (Nat.le_refl _) _).alloc (by simp) _
  have HC := Lib.hid (equal_any w.heap.size A A' c c' l m (by unfold maxLen; omega) (by unfold maxLen; omega) _ (h.below hb0) (h'.below hb0))
  have HD := Lib.hid (same_dec x1 x2 y1 y2 l m)
  have HB := Lib.hid hb0
  clear h h' hb0
  by_cases h1 : x1 = y1
  · subst h1
    by_cases h2 : x2 = y2
    · subst h2
      go_enter Try.func61, Try.ntmps61
      go_wp2_with fail
      refine HC.out.mono ?_; rintro e w2 ⟨rfl, hb2⟩
      go_wp2
      go_ret
      exact ⟨ret_bool (by rw [HD.out]; simp), below_next HB.out hb2⟩
    · have h2' : (x2 == y2) = false := by simpa using h2
      go_enter Try.func61, Try.ntmps61
      go_wp2
      go_ret
      exact ⟨ret_bool (by first | rfl | (rw [HD.out]; simp [h2])), HB.out⟩
  · have h1' : (x1 == y1) = false := by simpa using h1
    go_enter Try.func61, Try.ntmps61
    go_wp2
    go_ret
    exact ⟨ret_bool (by first | rfl | (rw [HD.out]; simp [h1])), HB.out⟩
def eqToN (xs ys : List Nod) (k : Nat) : Prop := ∀ i, i < k → xs[i]? = ys[i]?
theorem eqToN_end {xs ys : List Nod} (hl : xs.length = ys.length) (h : eqToN xs ys xs.length) : xs = ys := by
  apply List.ext_getElem?
  intro i
  by_cases hi : i < xs.length
  · exact h i hi
  · rw [List.getElem?_eq_none (by omega), List.getElem?_eq_none (by omega)]
theorem eqToN_step {xs ys : List Nod} {k : Nat} {x : Nod} (h : eqToN xs ys k) (hx : xs[k]? = some x) (hy : ys[k]? = some x) : eqToN xs ys (k + 1) := by
  intro i hi
  by_cases h' : i = k
  · rw [h', hx, hy]
  · exact h i (by omega)
theorem equalFunc_any (B : Nat) (A A' : Option Addr) (c c' : Nat) (xs ys : List Nod) (hlx : xs.length ≤ 1048576) (hly : ys.length ≤ 1048576) (hfx : fits xs) (hfy : fits ys) (w : World) (hB : B ≤ w.heap.size) (h : NodAt w B A xs) (h' : NodAt w B A' ys) :
    Calls Try.prog 60 #[.slice A xs.length c, .slice A' ys.length c', .func (.func 61) #[] #[]] w fun e w' => e = .returned (.bool (decide (xs = ys))) ∧ Below w.heap.size w w' := by
  by_cases hl : xs.length = ys.length
  · have hl' : ((xs.length : Int) != (ys.length : Int)) = false := by simp; omega
    have HL := Lib.hid hl
    clear hl
    go_enter Try.func60, Try.ntmps60
    go_wp2
    go_loopw [17] (fun i wr => ∃ k : Nat, k ≤ xs.length ∧ i = .int .i64 k ∧ eqToN xs ys k ∧ Below w.heap.size w wr) (fun i _ => xs.length - (intOf i).toNat)
    case atStart => exact ⟨0, Nat.zero_le _, rfl, fun i hi => absurd hi (by omega), Below.refl _ _⟩
    case round =>
      obtain ⟨k, hk, rfl, hall, hb⟩ := hrel
      have Hall := Lib.hid hall
      clear hall
      by_cases hlt : k < xs.length
      · have hlt' : k < ys.length := by have := HL.out; omega
        obtain ⟨b, off, rfl⟩ := h.some_ (by omega)
        obtain ⟨b', off', rfl⟩ := h'.some_ (by omega)
        obtain ⟨x, hx⟩ : ∃ x, xs[k]? = some x := ⟨_, List.getElem?_eq_getElem hlt⟩
        obtain ⟨y, hy⟩ : ∃ y, ys[k]? = some y := ⟨_, List.getElem?_eq_getElem hlt'⟩
        have gx := hfx x (List.mem_of_getElem? hx)
        have gy := hfy y (List.mem_of_getElem? hy)
        obtain ⟨A1, k1, c1, c2, c3, -, -, n1⟩ := (h.below (hb.mono hB)).at_ hx
        obtain ⟨A2, k2, d1, d2, d3, -, -, n2⟩ := (h'.below (hb.mono hB)).at_ hy
        have HX := Lib.hid hx
        have HY := Lib.hid hy
        have hB2 : B ≤ wr.heap.size := Nat.le_trans hB hb.size
        have hbl : b' < wr.heap.size := by have := World.block_lt_of_cell? wr _ d1; exact this
        obtain ⟨x1, x2, x3⟩ := x
        obtain ⟨y1, y2, y3⟩ := y
        simp only at c1 c2 c3 n1 d1 d2 d3 n2 gx gy
        have hba : Below wr.heap.size wr ((wr.alloc (.cells #[.int .i64 x1, .int .i64 x2, .slice A1 x3.length k1] 41 (0, 0))).alloc (.cells #[.int .i64 y1, .int .i64 y2, .slice A2 y3.length k2] 41 (0, 0))) :=
          ((Below.refl _ _).alloc (Nat.le_refl _) _).alloc (by simp) _
        have HC := Lib.hid (sameFn_any x1 x2 y1 y2 A1 A2 k1 k2 x3 y3 gx gy _ (((n1.more hB2).below hba).more hba.size) (((n2.more hB2).below hba).more hba.size))
        have HB := Lib.hid (below_next hb hba)
        clear h h' hx hy n1 n2 hb hba
        by_cases hxy : ((x1, x2, x3) : Nod) = (y1, y2, y3)
        · have HS := Lib.hid (eqToN_step Hall.out HX.out (by rw [HY.out, hxy]))
          rw [decide_eq_true hxy] at HC
          clear hxy
          go_wp2_with fail
          refine HC.out.mono ?_; rintro e w2 ⟨rfl, hb2⟩
          go_wp2
          go_roundw
          case rel => exact ⟨k + 1, by omega, by go_num, HS.out, below_next HB.out hb2⟩
          case measure => simp [intOf]; omega
        · have HN := Lib.hid (show decide (xs = ys) = false from by
            rw [decide_eq_false_iff_not]; intro e; rw [e, HY.out] at HX; injection HX.out with e'; exact hxy e'.symm)
          rw [decide_eq_false hxy] at HC
          clear hxy
          go_wp2_with fail
          refine HC.out.mono ?_; rintro e w2 ⟨rfl, hb2⟩
          go_wp2
          go_ret
          exact ⟨ret_bool HN.out.symm, below_next HB.out hb2⟩
      · clear h h'
        have HE := Lib.hid (show decide (xs = ys) = true from by
          rw [decide_eq_true_iff]; refine eqToN_end HL.out ?_; have : k = xs.length := by omega
          rw [← this]; exact Hall.out)
        go_wp2
        go_ret
        exact ⟨ret_bool HE.out.symm, hb⟩
  · have hl' : ((xs.length : Int) != (ys.length : Int)) = true := by simp; omega
    have HN := Lib.hid (show decide (xs = ys) = false from by rw [decide_eq_false_iff_not]; intro e; rw [e] at hl; exact hl rfl)
    clear hl h h'
    go_enter Try.func60, Try.ntmps60
    go_wp2
    go_ret
    exact ⟨ret_bool HN.out.symm, Below.refl _ _⟩
theorem sameRing_any (B : Nat) (A A' : Option Addr) (c c' : Nat) (xs ys : List Nod) (hlx : xs.length ≤ 1048576) (hly : ys.length ≤ 1048576) (hfx : fits xs) (hfy : fits ys) (w : World) (hB : B ≤ w.heap.size) (h : NodAt w B A xs) (h' : NodAt w B A' ys) :
    Calls Try.prog 46 #[.slice A xs.length c, .slice A' ys.length c'] w fun e w' => e = .returned (.bool (decide (xs = ys))) ∧ Below w.heap.size w w' := by
  have HC := Lib.hid (equalFunc_any B A A' c c' xs ys hlx hly hfx hfy w hB h h')
  clear h h'
  go_enter Try.func46, Try.ntmps46
  go_wp2_with fail
  refine HC.out.mono ?_; rintro e w2 ⟨rfl, hb2⟩
  go_wp2
  go_ret
  exact ⟨rfl, hb2⟩
theorem sameNode_any (x1 x2 y1 y2 : Int) (A A' : Option Addr) (c c' : Nat) (l m : List Int) (hl : l.length ≤ 1048576) (hm : m.length ≤ 1048576) (w : World) (h : NumsAt .i64 w w.heap.size A l) (h' : NumsAt .i64 w w.heap.size A' m) :
    Calls Try.prog 59 #[.agg #[.int .i64 x1, .int .i64 x2, .slice A l.length c], .agg #[.int .i64 y1, .int .i64 y2, .slice A' m.length c']] w fun e w' => e = .returned (.bool (decide (((x1, x2, l) : Nod) = (y1, y2, m)))) ∧ Below w.heap.size w w' := by
  have hb0 : Below w.heap.size w ((w.alloc (.cells #[.int .i64 x1, .int .i64 x2, .slice A l.length c] 41 (0, 0))).alloc (.cells #[.int .i64 y1, .int .i64 y2, .slice A' m.length c'] 41 (0, 0))) :=
    ((Below.refl _ _).alloc (Nat.le_refl _) _).alloc (by simp) _
  have HD := Lib.hid (same_dec x1 x2 y1 y2 l m)
  have HB := Lib.hid hb0
  have hE1 := hp_old (.cells #[.int .i64 y1, .int .i64 y2, .slice A' m.length c'] 41 (0, 0)) (alloc_top w (.cells #[.int .i64 x1, .int .i64 x2, .slice A l.length c] 41 (0, 0)))
  have hE2 := hp_new1 w (.cells #[.int .i64 x1, .int .i64 x2, .slice A l.length c] 41 (0, 0)) (.cells #[.int .i64 y1, .int .i64 y2, .slice A' m.length c'] 41 (0, 0))
  by_cases h1 : ¬ x1 = y1
  · have h1' : (x1 != y1) = true := by simpa using h1
    clear h h' hb0 hE1 hE2
    go_enter Try.func59, Try.ntmps59
    go_wp2
    go_ret
    exact ⟨ret_bool (by first | rfl | (rw [HD.out]; simp [h1])), HB.out⟩
  replace h1 : x1 = y1 := Decidable.not_not.1 h1
  subst h1
  by_cases h2 : ¬ x2 = y2
  · have h2' : (x2 != y2) = true := by simpa using h2
    clear h h' hb0 hE1 hE2
    go_enter Try.func59, Try.ntmps59
    go_wp2
    go_ret
    exact ⟨ret_bool (by first | rfl | (rw [HD.out]; simp [h2])), HB.out⟩
  replace h2 : x2 = y2 := Decidable.not_not.1 h2
  subst h2
  by_cases h3 : ¬ l.length = m.length
  · have h3' : ((l.length : Int) != (m.length : Int)) = true := by simp; omega
    have HN := Lib.hid (show decide (((x1, x2, l) : Nod) = (x1, x2, m)) = false from by rw [decide_eq_false_iff_not]; intro e; injection e with _ e; injection e with _ e; exact h3 (by rw [e]))
    clear h h' hb0 hE1 hE2 h3 HD
    go_enter Try.func59, Try.ntmps59
    go_wp2
    go_ret
    exact ⟨ret_bool HN.out.symm, HB.out⟩
  replace h3 : l.length = m.length := Decidable.not_not.1 h3
  have h3' : ((l.length : Int) != (m.length : Int)) = false := by simp; omega
  have H3 := Lib.hid h3
  have HD2 := Lib.hid (show decide (((x1, x2, l) : Nod) = (x1, x2, m)) = decide (l = m) from by rw [HD.out]; simp)
  clear h3 HD
  go_enter Try.func59, Try.ntmps59
  go_wp2_with fail
  go_loopw [5] (fun i wr => ∃ k : Nat, k ≤ l.length ∧ i = .int .i64 k ∧ eqTo l m k ∧ wr.heap[w.heap.size]? = some (.cells #[.int .i64 x1, .int .i64 x2, .slice A l.length c] 41 (0, 0)) ∧ wr.heap[w.heap.size + 1]? = some (.cells #[.int .i64 x1, .int .i64 x2, .slice A' m.length c'] 41 (0, 0)) ∧ Below w.heap.size w wr) (fun i _ => l.length - (intOf i).toNat)
  case atStart => exact ⟨0, Nat.zero_le _, rfl, fun i hi => absurd hi (by omega), hE1, hE2, hb0⟩
  case round =>
    obtain ⟨k, hk, rfl, hall, he1, he2, hb⟩ := hrel
    clear hE1 hE2 hb0
    have Hall := Lib.hid hall
    obtain ⟨-, -, g1⟩ := cells3 he1
    obtain ⟨-, -, g2⟩ := cells3 he2
    have n1 := h.below hb
    have n2 := h'.below hb
    have HE1 := Lib.hid he1
    have HE2 := Lib.hid he2
    have HBB := Lib.hid hb
    clear hall he1 he2 hb h h'
    by_cases hlt : k < l.length
    · have hlt' : k < m.length := by have := H3.out; omega
      obtain ⟨ad, x, rfl, -, hx, hc⟩ := n1 k hlt
      obtain ⟨ad', y, rfl, -, hy, hc'⟩ := n2 k hlt'
      have HX := Lib.hid hx
      have HY := Lib.hid hy
      clear n1 n2 hx hy
      by_cases hxy : x = y
      · subst hxy
        go_wp2
        go_quiet (fail)
        go_wp2
        go_roundw
        case rel => exact ⟨k + 1, by omega, by go_num, eqTo_step Hall.out HX.out HY.out, HE1.out, HE2.out, ⟨HBB.out.os, HBB.out.tape, HBB.out.output, HBB.out.size, HBB.out.block⟩⟩
        case measure => simp [intOf]; omega
      · have hne : (x != y) = true := by simpa using hxy
        have HN := Lib.hid (show decide (l = m) = false from by
          rw [decide_eq_false_iff_not]; intro e; rw [e, HY.out] at HX; injection HX.out with e'; exact hxy e'.symm)
        go_wp2
        go_quiet (fail)
        go_wp2
        go_ret
        exact ⟨ret_bool (by rw [HD2.out, HN.out]), ⟨HBB.out.os, HBB.out.tape, HBB.out.output, HBB.out.size, HBB.out.block⟩⟩
    · clear n1 n2
      have HE := Lib.hid (show decide (l = m) = true from by
        rw [decide_eq_true_iff]; refine eqTo_end H3.out ?_; have : k = l.length := by omega
        rw [← this]; exact Hall.out)
      go_wp2
      go_ret
      exact ⟨ret_bool (by rw [HD2.out, HE.out]), HBB.out⟩
theorem same_any (B : Nat) (A A' : Option Addr) (c c' : Nat) (xs ys : List Nod) (hlx : xs.length ≤ 1048576) (hly : ys.length ≤ 1048576) (hfx : fits xs) (hfy : fits ys) (w : World) (hB : B ≤ w.heap.size) (h : NodAt w B A xs) (h' : NodAt w B A' ys) :
    Calls Try.prog 45 #[.slice A xs.length c, .slice A' ys.length c'] w fun e w' => e = .returned (.bool (decide (xs = ys))) ∧ Below w.heap.size w w' := by
  by_cases hl : xs.length = ys.length
  · have hl' : ((xs.length : Int) != (ys.length : Int)) = false := by simp; omega
    have HL := Lib.hid hl
    clear hl
    go_enter Try.func45, Try.ntmps45
    go_wp2
    go_loopw [5] (fun i wr => ∃ k : Nat, k ≤ xs.length ∧ i = .int .i64 k ∧ eqToN xs ys k ∧ Below w.heap.size w wr) (fun i _ => xs.length - (intOf i).toNat)
    case atStart => exact ⟨0, Nat.zero_le _, rfl, fun i hi => absurd hi (by omega), Below.refl _ _⟩
    case round =>
      obtain ⟨k, hk, rfl, hall, hb⟩ := hrel
      have Hall := Lib.hid hall
      clear hall
      by_cases hlt : k < xs.length
      · have hlt' : k < ys.length := by have := HL.out; omega
        obtain ⟨b, off, rfl⟩ := h.some_ (by omega)
        obtain ⟨b', off', rfl⟩ := h'.some_ (by omega)
        obtain ⟨x, hx⟩ : ∃ x, xs[k]? = some x := ⟨_, List.getElem?_eq_getElem hlt⟩
        obtain ⟨y, hy⟩ : ∃ y, ys[k]? = some y := ⟨_, List.getElem?_eq_getElem hlt'⟩
        have gx := hfx x (List.mem_of_getElem? hx)
        have gy := hfy y (List.mem_of_getElem? hy)
        obtain ⟨A1, k1, c1, c2, c3, -, -, n1⟩ := (h.below (hb.mono hB)).at_ hx
        obtain ⟨A2, k2, d1, d2, d3, -, -, n2⟩ := (h'.below (hb.mono hB)).at_ hy
        have HX := Lib.hid hx
        have HY := Lib.hid hy
        have hB2 : B ≤ wr.heap.size := Nat.le_trans hB hb.size
        obtain ⟨x1, x2, x3⟩ := x
        obtain ⟨y1, y2, y3⟩ := y
        simp only at c1 c2 c3 n1 d1 d2 d3 n2 gx gy
        have HC := Lib.hid (sameNode_any x1 x2 y1 y2 A1 A2 k1 k2 x3 y3 gx gy wr.drew ((n1.more hB2).drewN 1) ((n2.more hB2).drewN 1))
        have HB := Lib.hid hb
        clear h h' hx hy n1 n2 hb
        by_cases hxy : ((x1, x2, x3) : Nod) = (y1, y2, y3)
        · have HS := Lib.hid (eqToN_step Hall.out HX.out (by rw [HY.out, hxy]))
          rw [decide_eq_true hxy] at HC
          clear hxy
          go_wp2
          go_region_with (go_at_call 59; refine (HC.out).mono ?_; rintro e w2 ⟨rfl, hb2⟩)
          all_goals
            go_wp2
            go_roundw
            case rel => exact ⟨k + 1, by omega, by go_num, HS.out, below_next HB.out (below_undrew hb2)⟩
            case measure => simp [intOf]; omega
        · have HN := Lib.hid (show decide (xs = ys) = false from by
            rw [decide_eq_false_iff_not]; intro e; rw [e, HY.out] at HX; injection HX.out with e'; exact hxy e'.symm)
          rw [decide_eq_false hxy] at HC
          clear hxy
          go_wp2
          go_region_with (go_at_call 59; refine (HC.out).mono ?_; rintro e w2 ⟨rfl, hb2⟩)
          all_goals
            go_wp2
            go_ret
            exact ⟨ret_bool HN.out.symm, below_next HB.out (below_undrew hb2)⟩
      · clear h h'
        have HE := Lib.hid (show decide (xs = ys) = true from by
          rw [decide_eq_true_iff]; refine eqToN_end HL.out ?_; have : k = xs.length := by omega
          rw [← this]; exact Hall.out)
        go_wp2
        go_ret
        exact ⟨ret_bool HE.out.symm, hb⟩
  · have hl' : ((xs.length : Int) != (ys.length : Int)) = true := by simp; omega
    have HN := Lib.hid (show decide (xs = ys) = false from by rw [decide_eq_false_iff_not]; intro e; rw [e] at hl; exact hl rfl)
    clear hl h h'
    go_enter Try.func45, Try.ntmps45
    go_wp2
    go_ret
    exact ⟨ret_bool HN.out.symm, Below.refl _ _⟩
end Go.Proofs.Ytmhneigglmingaa
