/- Walks: RegisterValid of the implementation: what it computes. -/
import Derived.Test.YtnfpgipbgillaaaRep
namespace Go.Proofs.Ytnfpgipbgillaaa
open Go.RowKit
set_option maxHeartbeats 1000000
set_option linter.unusedVariables false
/-- Two replicas of one version and writer that differ. -/
def badPair (a b : Tri) : Bool := !(repOlder a.1 a.2.1 b.1 b.2.1) && (!(repOlder b.1 b.2.1 a.1 a.2.1) && decide (a ≠ b))
def rvAt (xs : List Tri) (i : Nat) : Bool := match xs[i]? with
  | some x => repOk x.1 x.2.1 x.2.2 && (xs.take i).all (fun y => !badPair x y)
  | none => true
def rvTo (xs : List Tri) (k : Nat) : Bool := (List.range k).all (rvAt xs)
def regVal (xs : List Tri) : Bool := decide (1 ≤ xs.length ∧ xs.length ≤ 5) && rvTo xs xs.length
theorem rvTo_succ (xs : List Tri) (k : Nat) : rvTo xs (k + 1) = (rvTo xs k && rvAt xs k) := by simp [rvTo, List.range_succ]
theorem rvAt_some {xs : List Tri} {k : Nat} {x : Tri} (hx : xs[k]? = some x) : rvAt xs k = (repOk x.1 x.2.1 x.2.2 && (xs.take k).all (fun y => !badPair x y)) := by unfold rvAt; rw [hx]
theorem rv_false {xs : List Tri} (k : Nat) (hk : k < xs.length) (h : rvAt xs k = false) : rvTo xs xs.length = false := by
  unfold rvTo; rw [List.all_eq_false]; exact ⟨k, by simpa using hk, by simpa using h⟩
theorem regVal_no {xs : List Tri} (h : rvTo xs xs.length = false) : regVal xs = false := by unfold regVal; rw [h]; simp
theorem older_same {v r v' r' : Int} (h1 : repOlder v r v' r' = false) (h2 : repOlder v' r' v r = false) : v = v' ∧ r = r' := by
  unfold repOlder at h1 h2; simp at h1 h2; omega
theorem TrisAt.some_ {w : World} {B : Nat} {A : Option Addr} {xs : List Tri} (h : TrisAt w B A xs) (hn : 0 < xs.length) : ∃ b off, A = some ⟨b, off, none⟩ := by
  obtain ⟨b, off, _, _, _, e, _⟩ := h 0 hn
  exact ⟨b, off, e⟩
theorem TrisAt.at_ {w : World} {B b off : Nat} {xs : List Tri} (h : TrisAt w B (some ⟨b, off, none⟩) xs) {k : Nat} {x : Tri} (hx : xs[k]? = some x) : w.cell? ⟨b, off + k * 3, none⟩ = some (.int .i64 x.1) ∧ w.cell? ⟨b, off + k * 3 + 1, none⟩ = some (.int .i64 x.2.1) ∧ w.cell? ⟨b, off + k * 3 + 2, none⟩ = some (.int .i64 x.2.2) := by
  have hk := (List.getElem?_eq_some_iff.1 hx).1
  obtain ⟨b', off', y1, y2, y3, e, _, hy, c1, c2, c3⟩ := h k hk
  injection e with e
  injection e with e1 e2
  subst e1 e2
  rw [hx] at hy
  injection hy with hy
  subst hy
  exact ⟨c1, c2, c3⟩
/-- The three cells of a struct in a block of its own. -/
theorem cells3 {w : World} {n : Nat} {a b c : Value} {t : TypeId} (h : w.heap[n]? = some (.cells #[a, b, c] t (0, 0))) : w.cell? ⟨n, 0, none⟩ = some a ∧ w.cell? ⟨n, 1, none⟩ = some b ∧ w.cell? ⟨n, 2, none⟩ = some c := by
  refine ⟨?_, ?_, ?_⟩ <;> rw [cell_of_row w n _ _ t (0, 0) h] <;> rfl
theorem take_all_succ {xs : List Tri} {m : Nat} {y : Tri} {f : Tri → Bool} (h : (xs.take m).all f = true) (hy : xs[m]? = some y) (hf : f y = true) : (xs.take (m + 1)).all f = true := by
  rw [List.take_add_one, hy, List.all_append, h]; simp [hf]
theorem take_all_no {xs : List Tri} {m k : Nat} {y : Tri} {f : Tri → Bool} (hm : m < k) (hy : xs[m]? = some y) (hf : f y = false) : (xs.take k).all f = false := by
  rw [List.all_eq_false]
  exact ⟨y, List.mem_of_getElem? (i := m) (by rw [List.getElem?_take, if_pos hm]; exact hy), by simp [hf]⟩
theorem bad_older {a1 a2 a3 b1 b2 b3 : Int} (h : repOlder a1 a2 b1 b2 = true) : (!badPair (a1, a2, a3) (b1, b2, b3)) = true := by unfold badPair; rw [h]; rfl
theorem bad_older' {a1 a2 a3 b1 b2 b3 : Int} (h : repOlder b1 b2 a1 a2 = true) : (!badPair (a1, a2, a3) (b1, b2, b3)) = true := by unfold badPair; rw [h]; simp
theorem bad_same (a1 a2 a3 : Int) : (!badPair (a1, a2, a3) (a1, a2, a3)) = true := by simp [badPair]
theorem bad_yes {a1 a2 a3 b3 : Int} (h : ¬ a3 = b3) : (!badPair (a1, a2, a3) (a1, a2, b3)) = false := by simp [badPair, repOlder, h]
theorem alloc_top (w : World) (x : Obj) : (w.alloc x).heap[w.heap.size]? = some x := by
  simp only [World.alloc, Array.getElem?_push_size]
theorem rv_impl (B : Nat) (A : Option Addr) (c : Nat) (xs : List Tri) (hl : xs.length ≤ c) (hc : c ≤ maxLen) (w : World) (hB : B ≤ w.heap.size) (h : TrisAt w B A xs) :
    Calls Try.prog 12 #[.slice A xs.length c] w fun e w' => e = .returned (.bool (regVal xs)) ∧ Below w.heap.size w w' := by
  unfold maxLen at hc
  by_cases hlen : 1 ≤ xs.length ∧ xs.length ≤ 5
  · obtain ⟨hl1, hl5⟩ := hlen
    obtain ⟨b, off, rfl⟩ := h.some_ (by omega)
    have HV := Lib.hid (show regVal xs = rvTo xs xs.length from by unfold regVal; rw [decide_eq_true ⟨hl1, hl5⟩]; rfl)
    have H0 := Lib.hid (inRange_yes (n := (xs.length : Int)) (lo := 1) (hi := 5) (by omega) w)
    go_enter Try.func12, Try.ntmps12
    go_wp2_with fail
    refine H0.out.mono ?_; rintro e w' ⟨rfl, rfl⟩
    go_wp2
    go_loopw [13] (fun i wr => ∃ k : Nat, k ≤ xs.length ∧ i = .int .i64 k ∧ rvTo xs k = true ∧ Below w.heap.size w wr) (fun i _ => xs.length - (intOf i).toNat)
    case atStart => exact ⟨0, Nat.zero_le _, rfl, rfl, Below.refl _ _⟩
    case round =>
      obtain ⟨k, hk, rfl, hall, hb⟩ := hrel
      have Hall := Lib.hid hall
      clear hall H0
      by_cases hlt : k < xs.length
      · obtain ⟨x, hx⟩ : ∃ x, xs[k]? = some x := ⟨_, List.getElem?_eq_getElem hlt⟩
        obtain ⟨x1, x2, x3⟩ := x
        have hwr := h.below (hb.mono hB)
        obtain ⟨c1, c2, c3⟩ := hwr.at_ hx
        simp only at c1 c2 c3
        have HX := Lib.hid hx
        have HA := Lib.hid (rvAt_some hx)
        have HS := Lib.hid (rvTo_succ xs k)
        have HF := Lib.hid (rv_false k hlt)
        clear hx hwr
        cases hok : repOk x1 x2 x3
        · go_wp2_with (go_at_call 27; refine (repOk_impl _ _ _ _).mono ?_; rintro e w2 ⟨rfl, hb2⟩)
          go_ret
          exact ⟨ret_bool (by rw [HV.out, HF.out (by rw [HA.out, hok]; rfl)]), below_next (w1 := wr) hb (below_after hb2)⟩
        · go_wp2_with fail
          refine (repOk_impl _ _ _ _).mono ?_
          rintro e w2 ⟨rfl, hb2⟩
          rw [hok]
          have hB2 : Below wr.heap.size wr w2 := below_after hb2
          have hX : w2.heap[wr.heap.size]? = some (.cells #[.int .i64 x1, .int .i64 x2, .int .i64 x3] 32 (0, 0)) := by
            rw [hb2.block _ (by simp)]
            exact alloc_top _ _
          have hB5 : Below w.heap.size w w2 := below_next (w1 := wr) hb hB2
          clear hB2 hb2 c1 c2 c3 hb
          go_wp2_with fail
          go_loopw [25] (fun j w5 => ∃ m : Nat, m ≤ k ∧ j = .int .i64 m ∧ (xs.take m).all (fun y => !badPair (x1, x2, x3) y) = true ∧ Below w.heap.size w w5 ∧ w5.heap[wr.heap.size]? = some (.cells #[.int .i64 x1, .int .i64 x2, .int .i64 x3] 32 (0, 0))) (fun j _ => k - (intOf j).toNat)
          case atStart => exact ⟨0, Nat.zero_le _, rfl, rfl, hB5, hX⟩
          case round =>
            rename World => w5
            obtain ⟨m, hm, rfl, hall5, hb5, hX5⟩ := hrel
            clear hB5 hX
            by_cases hlt5 : m < k
            · obtain ⟨y, hy⟩ : ∃ y, xs[m]? = some y := ⟨_, List.getElem?_eq_getElem (by omega)⟩
              obtain ⟨y1, y2, y3⟩ := y
              obtain ⟨c1, c2, c3⟩ := (h.below (hb5.mono hB)).at_ hy
              obtain ⟨d1, d2, d3⟩ := cells3 hX5
              simp only at c1 c2 c3
              have HY := Lib.hid hy
              clear hy
              have hlt6 : wr.heap.size < w5.heap.size := (Array.getElem?_eq_some_iff.1 hX5).1
              have hb6 : Below w5.heap.size w5 (w5.alloc (.cells #[.int .i64 y1, .int .i64 y2, .int .i64 y3] 32 (0, 0))) := (Below.refl _ _).alloc (Nat.le_refl _) _
              have hX6 := (hb6.block _ hlt6).trans hX5
              have hY6 := alloc_top w5 (.cells #[.int .i64 y1, .int .i64 y2, .int .i64 y3] 32 (0, 0))
              obtain ⟨d1, d2, d3⟩ := cells3 hX6
              have HC := Lib.hid hX5
              have HX6 := Lib.hid hX6
              have HY6 := Lib.hid hY6
              have HH := Lib.hid hall5
              have HT := Lib.hid (List.take_add_one (l := xs) (i := m))
              clear hX5 hX6 hY6 hall5
              go_wp2_with fail
              refine (older_impl _ _ _ _ _ _ _).mono ?_
              rintro e w6 ⟨rfl, hb7⟩
              clear c1 c2 c3 d1 d2 d3
              have hX7 := (hb7.block wr.heap.size (by simp; omega)).trans HX6.out
              have hY7 := (hb7.block w5.heap.size (by simp)).trans HY6.out
              have hb8 : Below w.heap.size w w6 := below_next (below_next hb5 hb6) hb7
              cases hA : repOlder x1 x2 y1 y2
              · obtain ⟨d1, d2, d3⟩ := cells3 hX7
                obtain ⟨c1, c2, c3⟩ := cells3 hY7
                have HX7 := Lib.hid hX7
                have HY7 := Lib.hid hY7
                clear hX7 hY7
                go_wp2_with fail
                refine (older_impl _ _ _ _ _ _ _).mono ?_
                rintro e w7 ⟨rfl, hb9⟩
                clear c1 c2 c3 d1 d2 d3
                have hX8 := (hb9.block wr.heap.size (Array.getElem?_eq_some_iff.1 HX7.out).1).trans HX7.out
                have hY8 := (hb9.block w5.heap.size (Array.getElem?_eq_some_iff.1 HY7.out).1).trans HY7.out
                have hb10 : Below w.heap.size w w7 := below_next hb8 hb9
                cases hB' : repOlder y1 y2 x1 x2
                · obtain ⟨hv, hr⟩ := older_same hA hB'
                  subst hv hr
                  obtain ⟨d1, d2, d3⟩ := cells3 hX8
                  obtain ⟨c1, c2, c3⟩ := cells3 hY8
                  have HX8 := Lib.hid hX8
                  clear hX8 hY8
                  by_cases h3 : x3 = y3
                  · subst h3
                    go_wp2_with fail
                    refine ⟨⟨m + 1, by omega, rfl, take_all_succ HH.out HY.out (bad_same _ _ _), hb10, HX8.out⟩, ?_⟩
                    simp only [intOf]; omega
                  · go_wp2_with fail
                    go_ret
                    exact ⟨ret_bool (by rw [HV.out, HF.out (by rw [HA.out, take_all_no hlt5 HY.out (bad_yes h3)]; simp)]), hb10⟩
                · have HX8 := Lib.hid hX8
                  clear hX8 hY8
                  go_wp2_with fail
                  refine ⟨⟨m + 1, by omega, rfl, take_all_succ HH.out HY.out (bad_older' hB'), hb10, HX8.out⟩, ?_⟩
                  simp only [intOf]; omega
              · have HX7 := Lib.hid hX7
                clear hX7 hY7
                go_wp2_with fail
                refine ⟨⟨m + 1, by omega, rfl, take_all_succ HH.out HY.out (bad_older hA), hb8, HX7.out⟩, ?_⟩
                simp only [intOf]; omega
            · have : m = k := by omega
              subst this
              have HH := Lib.hid hall5
              clear hX5 hall5
              go_wp2_with fail
              refine ⟨⟨m + 1, by omega, rfl, by rw [HS.out, Hall.out, HA.out, hok, HH.out]; rfl, hb5⟩, ?_⟩
              simp only [intOf]; omega
      · clear h
        go_wp2
        go_ret
        have : k = xs.length := by omega
        subst this
        exact ⟨ret_bool (by rw [HV.out, Hall.out]), hb⟩
  · have H0 := Lib.hid (inRange_no (n := (xs.length : Int)) (lo := 1) (hi := 5) (by omega) w)
    have HV := Lib.hid (show regVal xs = false from by unfold regVal; rw [decide_eq_false hlen]; rfl)
    clear hlen h
    go_enter Try.func12, Try.ntmps12
    go_wp2_with fail
    refine H0.out.mono ?_; rintro e w' ⟨rfl, rfl⟩
    go_wp2
    go_ret
    exact ⟨ret_bool HV.out.symm, Below.refl _ _⟩
end Go.Proofs.Ytnfpgipbgillaaa
