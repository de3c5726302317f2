/- Walks: the latest replica of a set: impl.latest, l13Latest. -/
import Derived.Test.YtnfpgipbgillaaaSet
namespace Go.Proofs.Ytnfpgipbgillaaa
open Go.RowKit
set_option maxHeartbeats 1000000
set_option linter.unusedVariables false
def latStep (b x : Tri) : Tri := if repOlder b.1 b.2.1 x.1 x.2.1 then x else b
def pickT (xs : List Tri) (s : Int) : Tri := xs.getD s.toNat (0, 0, 0)
def latTo (xs : List Tri) (ss : List Int) (k : Nat) : Tri := (ss.take k).foldl (fun b s => latStep b (pickT xs s)) (pickT xs (ss.headD 0))
def latVal (xs : List Tri) (ss : List Int) : Tri := latTo xs ss ss.length
theorem latTo_succ {xs : List Tri} {ss : List Int} {k : Nat} {s : Int} (h : ss[k]? = some s) : latTo xs ss (k + 1) = latStep (latTo xs ss k) (pickT xs s) := by
  unfold latTo; rw [List.take_add_one, h]; simp
theorem older_self (b : Tri) : latStep b b = b := by unfold latStep; split <;> rfl
theorem latTo_one {xs : List Tri} {ss : List Int} {s : Int} (h : ss[0]? = some s) : latTo xs ss 1 = pickT xs s := by
  rw [latTo_succ h]
  have : ss.headD 0 = s := by cases ss <;> simp_all
  have e : latTo xs ss 0 = pickT xs s := by unfold latTo; rw [this]; rfl
  rw [e]; exact older_self _
theorem setTo_at {n : Nat} {ss : List Int} {k : Nat} {s : Int} (h : setOk n ss = true) (hs : ss[k]? = some s) : 0 ≤ s ∧ s < n := by
  obtain ⟨hk, _⟩ := List.getElem?_eq_some_iff.1 hs
  unfold setOk setTo at h
  rw [List.all_eq_true] at h
  have := h k (by simpa using hk)
  unfold setAt at this
  rw [hs] at this
  simp [inS] at this
  omega
theorem pick_at {xs : List Tri} {ss : List Int} {k : Nat} {s : Int} (h : setOk xs.length ss = true) (hs : ss[k]? = some s) : ∃ j : Nat, s = (j : Int) ∧ j < xs.length ∧ xs[j]? = some (pickT xs s) := by
  obtain ⟨h1, h2⟩ := setTo_at h hs
  refine ⟨s.toNat, by omega, by omega, ?_⟩
  unfold pickT
  rw [List.getD_eq_getElem?_getD, List.getElem?_eq_getElem (by omega)]; rfl
theorem set1 {w : World} {n : Nat} {c : Array Value} {t : TypeId} {f : Nat × Nat} (h : w.heap[n]? = some (.cells c t f)) (o : Nat) (v : Value) :
    (w.setCell ⟨n, o, none⟩ v).heap[n]? = some (.cells (c.setIfInBounds o v) t f) := by
  unfold World.setCell
  simp only [Array.getElem?_modify, if_true, h, Option.map_some]
  rfl
theorem set3 {w : World} {n : Nat} {a b c : Value} {t : TypeId} (h : w.heap[n]? = some (.cells #[a, b, c] t (0, 0))) (x y z : Value) :
    (((w.setCell ⟨n, 0, none⟩ x).setCell ⟨n, 1, none⟩ y).setCell ⟨n, 2, none⟩ z).heap[n]? = some (.cells #[x, y, z] t (0, 0)) := by
  rw [set1 (set1 (set1 h 0 x) 1 y) 2 z]; rfl
theorem set3_ne {w : World} {n m : Nat} (h : m ≠ n) (x y z : Value) :
    (((w.setCell ⟨n, 0, none⟩ x).setCell ⟨n, 1, none⟩ y).setCell ⟨n, 2, none⟩ z).heap[m]? = w.heap[m]? := by
  have one : ∀ (w : World) (o : Nat) (v : Value), (w.setCell ⟨n, o, none⟩ v).heap[m]? = w.heap[m]? := by
    intro w o v
    unfold World.setCell
    simp only [Array.getElem?_modify, if_neg (Ne.symm h)]
  rw [one, one, one]
theorem free3 {w : World} {n : Nat} {a b c : Value} {t : TypeId} (h : w.heap[n]? = some (.cells #[a, b, c] t (0, 0))) (o : Nat) : w.frozen? ⟨n, o, none⟩ = false := by
  unfold World.frozen?; simp [h]
/-- The cell of the result and the cell of the best. -/
def TwoT (w : World) (n : Nat) (a b : Tri) : Prop := w.heap[n]? = some (.cells #[.int .i64 a.1, .int .i64 a.2.1, .int .i64 a.2.2] 32 (0, 0)) ∧ w.heap[n + 1]? = some (.cells #[.int .i64 b.1, .int .i64 b.2.1, .int .i64 b.2.2] 32 (0, 0))
theorem TwoT.keep {w w' : World} {n : Nat} {a b : Tri} (h : TwoT w n a b) (hb : Below w.heap.size w w') : TwoT w' n a b :=
  ⟨(hb.block _ (Array.getElem?_eq_some_iff.1 h.1).1).trans h.1, (hb.block _ (Array.getElem?_eq_some_iff.1 h.2).1).trans h.2⟩
theorem older_tri (b x : Tri) (w : World) : Calls Try.prog 28 #[.agg #[.int .i64 b.1, .int .i64 b.2.1, .int .i64 b.2.2], .agg #[.int .i64 x.1, .int .i64 x.2.1, .int .i64 x.2.2]] w fun e w' => e = .returned (.bool (repOlder b.1 b.2.1 x.1 x.2.1)) ∧ Below w.heap.size w w' := older_impl _ _ _ _ _ _ w
theorem add_none (b o k : Nat) : (⟨b, o, none⟩ : Addr).add k = ⟨b, o + k, none⟩ := by unfold Addr.add; split <;> simp_all
theorem nums_at {w : World} {B b o : Nat} {ss : List Int} (h : NumsAt .i64 w B (some ⟨b, o, none⟩) ss) {k : Nat} {s : Int} (hs : ss[k]? = some s) : w.cell? ⟨b, o + k, none⟩ = some (.int .i64 s) := by
  obtain ⟨ad, x, e, -, hx, hc⟩ := h k (List.getElem?_eq_some_iff.1 hs).1
  injection e with e
  subst e
  rw [hs] at hx
  injection hx with hx
  subst hx
  rw [← add_none]; exact hc
theorem nums_some {w : World} {B : Nat} {A : Option Addr} {ss : List Int} (h : NumsAt .i64 w B A ss) (h0 : 0 < ss.length) : ∃ b o, A = some ⟨b, o, none⟩ := by
  obtain ⟨ad, x, e, -, hx, hc⟩ := h 0 h0
  rw [addr_zero] at hc
  have := World.cell?_spot hc
  obtain ⟨b, o, sp⟩ := ad
  simp only at this
  subst this
  exact ⟨b, o, e⟩
theorem lat_impl (B : Nat) (A A' : Option Addr) (c c' : Nat) (xs : List Tri) (ss : List Int) (hx : xs.length ≤ maxLen) (hs : ss.length ≤ maxLen) (h0 : 0 < ss.length) (hset : setOk xs.length ss = true) (w : World) (hB : B ≤ w.heap.size) (h : TrisAt w B A xs) (h' : NumsAt .i64 w B A' ss) :
    Calls Try.prog 34 #[.slice A xs.length c, .slice A' ss.length c'] w fun e w' => e = .returned (.agg #[.int .i64 (latVal xs ss).1, .int .i64 (latVal xs ss).2.1, .int .i64 (latVal xs ss).2.2]) ∧ Below w.heap.size w w' := by
  unfold maxLen at hx hs
  obtain ⟨ab, ao, rfl⟩ := nums_some h' h0
  obtain ⟨s0, hs0⟩ : ∃ s, ss[0]? = some s := ⟨_, List.getElem?_eq_getElem h0⟩
  have d0 := nums_at h' hs0
  rw [Nat.add_zero] at d0
  obtain ⟨j0, rfl, hj0, hx0⟩ := pick_at hset hs0
  obtain ⟨b, off, rfl⟩ := h.some_ (by omega)
  obtain ⟨c1, c2, c3⟩ := h.at_ hx0
  have HZ := Lib.hid (show pickT xs (j0 : Int) = latTo xs ss 0 from by
    have : ss.headD 0 = (j0 : Int) := by cases ss <;> simp_all
    unfold latTo; rw [this]; rfl)
  have HSET := Lib.hid hset
  clear hs0 hx0 hset
  generalize hT : pickT xs (j0 : Int) = T0 at c1 c2 c3 HZ
  have HT := Lib.hid hT
  clear hT
  have hbz : Below w.heap.size w (w.alloc (.cells #[.int .i64 0, .int .i64 0, .int .i64 0] 32 (0, 0))) := (Below.refl _ _).alloc (Nat.le_refl _) _
  replace c1 := (hbz.cell (World.block_lt_of_cell? w _ c1)).trans c1
  replace c2 := (hbz.cell (World.block_lt_of_cell? w _ c2)).trans c2
  replace c3 := (hbz.cell (World.block_lt_of_cell? w _ c3)).trans c3
  replace d0 := (hbz.cell (World.block_lt_of_cell? w _ d0)).trans d0
  have hTwo : TwoT ((w.alloc (.cells #[.int .i64 0, .int .i64 0, .int .i64 0] 32 (0, 0))).alloc (.cells #[.int .i64 T0.1, .int .i64 T0.2.1, .int .i64 T0.2.2] 32 (0, 0))) w.heap.size (0, 0, 0) T0 := by
    refine ⟨?_, ?_⟩
    · rw [((Below.refl _ _).alloc (Nat.le_refl _) _ : Below _ _ ((w.alloc _).alloc _)).block w.heap.size (by simp)]; exact alloc_top _ _
    · have := alloc_top (w.alloc (.cells #[.int .i64 0, .int .i64 0, .int .i64 0] 32 (0, 0))) (.cells #[.int .i64 T0.1, .int .i64 T0.2.1, .int .i64 T0.2.2] 32 (0, 0))
      simpa using this
  have HTwo := Lib.hid hTwo
  clear hTwo hbz
  go_enter Try.func34, Try.ntmps34
  go_wp2_with fail
  go_loopw [16] (fun i wr => ∃ k : Nat, k ≤ ss.length ∧ i = .int .i64 k ∧ TwoT wr w.heap.size (0, 0, 0) (latTo xs ss k) ∧ Below w.heap.size w wr) (fun i _ => ss.length - (intOf i).toNat)
  case atStart => exact ⟨0, Nat.zero_le _, rfl, HZ.out ▸ HTwo.out, ((Below.refl _ _).alloc (Nat.le_refl _) _).alloc (by simp) _⟩
  case round =>
    obtain ⟨k, hk, rfl, ht, hb⟩ := hrel
    clear c1 c2 c3 d0 HTwo HZ HT
    by_cases hlt : k < ss.length
    · obtain ⟨s, hs⟩ : ∃ s, ss[k]? = some s := ⟨_, List.getElem?_eq_getElem hlt⟩
      have d := nums_at (h'.below (hb.mono hB)) hs
      have HS := Lib.hid (latTo_succ (xs := xs) hs)
      obtain ⟨j, rfl, hj, hxj⟩ := pick_at HSET.out hs
      obtain ⟨c1, c2, c3⟩ := (h.below (hb.mono hB)).at_ hxj
      have HJ := Lib.hid hxj
      clear hs hxj
      generalize pickT xs (j : Int) = T1 at c1 c2 c3 HS HJ
      generalize latTo xs ss k = bb at ht HS
      obtain ⟨e1, e2, e3⟩ := cells3 ht.2
      have HTT := Lib.hid ht
      clear ht
      cases ho : repOlder bb.1 bb.2.1 T1.1 T1.2.1
      · have HB := Lib.hid (show latStep bb T1 = bb from by unfold latStep; rw [if_neg (by simp [ho])])
        go_wp2_with fail
        go_region_with (go_at_call 28; refine (older_tri bb T1 _).mono ?_; rw [ho]; rintro e w2 ⟨rfl, hb2⟩)
        all_goals
          replace hb2 := below_undrew hb2
          go_wp2_with fail
          go_roundw
          case rel => exact ⟨k + 1, by omega, by go_num, by rw [HS.out, HB.out]; exact HTT.out.keep hb2, below_next hb hb2⟩
          case measure => simp [intOf]; omega
      · have HB := Lib.hid (show latStep bb T1 = T1 from by unfold latStep; rw [if_pos ho])
        go_wp2_with fail
        go_region_with (go_at_call 28; refine (older_tri bb T1 _).mono ?_; rw [ho]; rintro e w2 ⟨rfl, hb2⟩)
        all_goals
          replace hb2 := below_undrew hb2
          have hb3 := below_next hb hb2
          clear c1 c2 c3 e1 e2 e3 d
          have ht2 := HTT.out.keep hb2
          obtain ⟨c1, c2, c3⟩ := (h.below (hb3.mono hB)).at_ HJ.out
          obtain ⟨e1, e2, e3⟩ := cells3 ht2.2
          have f1 := free3 ht2.2 0
          have f2 := free3 ht2.2 1
          have f3 := free3 ht2.2 2
          have HT2 := Lib.hid ht2
          clear ht2
          go_wp2_with fail
          go_roundw
          case rel => exact ⟨k + 1, by omega, by go_num, by rw [HS.out, HB.out]; exact ⟨(set3_ne (by omega) _ _ _).trans HT2.out.1, set3 HT2.out.2 _ _ _⟩, ((hb3.setCell (p := ⟨w.heap.size + 1, 0, none⟩) (Nat.le_add_right _ 1) _).setCell (p := ⟨w.heap.size + 1, 1, none⟩) (Nat.le_add_right _ 1) _).setCell (p := ⟨w.heap.size + 1, 2, none⟩) (Nat.le_add_right _ 1) _⟩
          case measure => simp [intOf]; omega
    · have : k = ss.length := by omega
      subst this
      obtain ⟨e1, e2, e3⟩ := cells3 ht.2
      obtain ⟨g1, g2, g3⟩ := cells3 ht.1
      have f1 := free3 ht.1 0
      have f2 := free3 ht.1 1
      have f3 := free3 ht.1 2
      clear h h' ht
      have HL := Lib.hid (show latVal xs ss = latTo xs ss ss.length from rfl)
      generalize latTo xs ss ss.length = bb at e1 e2 e3 HL
      have HG := Lib.hid (And.intro g1 (And.intro g2 g3))
      go_wp2_with fail
      refine bodyPost_ret (v := .agg #[.int .i64 bb.1, .int .i64 bb.2.1, .int .i64 bb.2.2]) (by simp [results, Try.results34, go_sem, HG.out.1, HG.out.2.1, HG.out.2.2]) rfl ⟨by rw [HL.out], ((hb.setCell (p := ⟨w.heap.size, 0, none⟩) (Nat.le_refl _) _).setCell (p := ⟨w.heap.size, 1, none⟩) (Nat.le_refl _) _).setCell (p := ⟨w.heap.size, 2, none⟩) (Nat.le_refl _) _⟩
end Go.Proofs.Ytnfpgipbgillaaa
