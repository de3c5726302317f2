/- Walks: l13Latest. -/
import Derived.Test.YtnfpgipbgillaaaLat
namespace Go.Proofs.Ytnfpgipbgillaaa
open Go.RowKit
set_option maxHeartbeats 1000000
set_option linter.unusedVariables false
theorem less_tri (b x : Tri) (w : World) : Calls Try.prog 42 #[.agg #[.int .i64 b.1, .int .i64 b.2.1, .int .i64 b.2.2], .agg #[.int .i64 x.1, .int .i64 x.2.1, .int .i64 x.2.2]] w fun e w' => e = .returned (.bool (repOlder b.1 b.2.1 x.1 x.2.1)) ∧ Below w.heap.size w w' := less_spec _ _ _ _ _ _ w
theorem lat_spec (B : Nat) (A A' : Option Addr) (c c' : Nat) (xs : List Tri) (ss : List Int) (hx : xs.length ≤ maxLen) (hs : ss.length ≤ maxLen) (h0 : 0 < ss.length) (hset : setOk xs.length ss = true) (w : World) (hB : B ≤ w.heap.size) (h : TrisAt w B A xs) (h' : NumsAt .i64 w B A' ss) :
    Calls Try.prog 32 #[.slice A xs.length c, .slice A' ss.length c'] w fun e w' => e = .returned (.agg #[.int .i64 (latVal xs ss).1, .int .i64 (latVal xs ss).2.1, .int .i64 (latVal xs ss).2.2]) ∧ Below w.heap.size w w' := by
  unfold maxLen at hx hs
  obtain ⟨ab, ao, rfl⟩ := nums_some h' h0
  obtain ⟨s0, hs0⟩ : ∃ s, ss[0]? = some s := ⟨_, List.getElem?_eq_getElem h0⟩
  have d0 := nums_at h' hs0
  rw [Nat.add_zero] at d0
  obtain ⟨j0, rfl, hj0, hx0⟩ := pick_at hset hs0
  obtain ⟨b, off, rfl⟩ := h.some_ (by omega)
  obtain ⟨c1, c2, c3⟩ := h.at_ hx0
  have HZ := Lib.hid (latTo_one (xs := xs) hs0).symm
  have HSET := Lib.hid hset
  clear hs0 hx0 hset
  generalize hT : pickT xs (j0 : Int) = T0 at c1 c2 c3 HZ
  have HT := Lib.hid hT
  clear hT
  have hbz : Below w.heap.size w (w.alloc (.cells #[.int .i64 0, .int .i64 0, .int .i64 0] 32 (0, 0))) := (Below.refl _ _).alloc (Nat.le_refl _) _
  replace c1 := (hbz.cell (World.block_lt_of_cell? w _ c1)).trans c1
  replace c2 := (hbz.cell (World.block_lt_of_cell? w _ c2)).trans c2
  replace c3 := (hbz.cell (World.block_lt_of_cell? w _ c3)).trans c3
  replace d0 := (hbz.cell (World.block_lt_of_cell? w _ d0)).trans d0
  have hTwo : TwoT ((w.alloc (.cells #[.int .i64 0, .int .i64 0, .int .i64 0] 32 (0, 0))).alloc (.cells #[.int .i64 T0.1, .int .i64 T0.2.1, .int .i64 T0.2.2] 32 (0, 0))) w.heap.size (0, 0, 0) T0 := by
    refine ⟨?_, ?_⟩
    · rw [((Below.refl _ _).alloc (Nat.le_refl _) _ : Below _ _ ((w.alloc _).alloc _)).block w.heap.size (by simp)]; exact alloc_top _ _
    · have := alloc_top (w.alloc (.cells #[.int .i64 0, .int .i64 0, .int .i64 0] 32 (0, 0))) (.cells #[.int .i64 T0.1, .int .i64 T0.2.1, .int .i64 T0.2.2] 32 (0, 0))
      simpa using this
  have HTwo := Lib.hid hTwo
  clear hTwo hbz
  go_enter Try.func32, Try.ntmps32
  go_wp2_with fail
  go_loopw [6] (fun i wr => ∃ k : Nat, k ≤ ss.length ∧ i = .int .i64 k ∧ TwoT wr w.heap.size (0, 0, 0) (latTo xs ss k) ∧ Below w.heap.size w wr) (fun i _ => ss.length - (intOf i).toNat)
  case atStart => exact ⟨1, by omega, rfl, HZ.out ▸ HTwo.out, ((Below.refl _ _).alloc (Nat.le_refl _) _).alloc (by simp) _⟩
  case round =>
    obtain ⟨k, hk, rfl, ht, hb⟩ := hrel
    clear c1 c2 c3 d0 HTwo HZ HT
    by_cases hlt : k < ss.length
    · obtain ⟨s, hs⟩ : ∃ s, ss[k]? = some s := ⟨_, List.getElem?_eq_getElem hlt⟩
      have d := nums_at (h'.below (hb.mono hB)) hs
      have HS := Lib.hid (latTo_succ (xs := xs) hs)
      obtain ⟨j, rfl, hj, hxj⟩ := pick_at HSET.out hs
      obtain ⟨c1, c2, c3⟩ := (h.below (hb.mono hB)).at_ hxj
      have HJ := Lib.hid hxj
      clear hs hxj
      generalize pickT xs (j : Int) = T1 at c1 c2 c3 HS HJ
      generalize latTo xs ss k = bb at ht HS
      obtain ⟨e1, e2, e3⟩ := cells3 ht.2
      have HTT := Lib.hid ht
      clear ht
      cases ho : repOlder bb.1 bb.2.1 T1.1 T1.2.1
      · have HB := Lib.hid (show latStep bb T1 = bb from by unfold latStep; rw [if_neg (by simp [ho])])
        go_wp2_with fail
        go_region_with (go_at_call 42; refine (less_tri bb T1 _).mono ?_; rw [ho]; rintro e w2 ⟨rfl, hb2⟩)
        all_goals
          replace hb2 := below_undrew hb2
          go_wp2_with fail
          go_roundw
          case rel => exact ⟨k + 1, by omega, by go_num, by rw [HS.out, HB.out]; exact HTT.out.keep hb2, below_next hb hb2⟩
          case measure => simp [intOf]; omega
      · have HB := Lib.hid (show latStep bb T1 = T1 from by unfold latStep; rw [if_pos ho])
        go_wp2_with fail
        go_region_with (go_at_call 42; refine (less_tri bb T1 _).mono ?_; rw [ho]; rintro e w2 ⟨rfl, hb2⟩)
        all_goals
          replace hb2 := below_undrew hb2
          have hb3 := below_next hb hb2
          replace d := (hb2.cell (World.block_lt_of_cell? wr _ d)).trans d
          clear c1 c2 c3 e1 e2 e3
          have ht2 := HTT.out.keep hb2
          obtain ⟨c1, c2, c3⟩ := (h.below (hb3.mono hB)).at_ HJ.out
          obtain ⟨e1, e2, e3⟩ := cells3 ht2.2
          have f1 := free3 ht2.2 0
          have f2 := free3 ht2.2 1
          have f3 := free3 ht2.2 2
          have HT2 := Lib.hid ht2
          clear ht2
          go_wp2_with fail
          go_roundw
          case rel => exact ⟨k + 1, by omega, by go_num, by rw [HS.out, HB.out]; exact ⟨(set3_ne (by omega) _ _ _).trans HT2.out.1, set3 HT2.out.2 _ _ _⟩, ((hb3.setCell (p := ⟨w.heap.size + 1, 0, none⟩) (Nat.le_add_right _ 1) _).setCell (p := ⟨w.heap.size + 1, 1, none⟩) (Nat.le_add_right _ 1) _).setCell (p := ⟨w.heap.size + 1, 2, none⟩) (Nat.le_add_right _ 1) _⟩
          case measure => simp [intOf]; omega
    · have : k = ss.length := by omega
      subst this
      obtain ⟨e1, e2, e3⟩ := cells3 ht.2
      obtain ⟨g1, g2, g3⟩ := cells3 ht.1
      have f1 := free3 ht.1 0
      have f2 := free3 ht.1 1
      have f3 := free3 ht.1 2
      clear h h' ht
      have HL := Lib.hid (show latVal xs ss = latTo xs ss ss.length from rfl)
      generalize latTo xs ss ss.length = bb at e1 e2 e3 HL
      have HG := Lib.hid (And.intro g1 (And.intro g2 g3))
      go_wp2_with fail
      refine bodyPost_ret (v := .agg #[.int .i64 bb.1, .int .i64 bb.2.1, .int .i64 bb.2.2]) (by simp [results, Try.results32, go_sem, HG.out.1, HG.out.2.1, HG.out.2.2]) rfl ⟨by rw [HL.out], ((hb.setCell (p := ⟨w.heap.size, 0, none⟩) (Nat.le_refl _) _).setCell (p := ⟨w.heap.size, 1, none⟩) (Nat.le_refl _) _).setCell (p := ⟨w.heap.size, 2, none⟩) (Nat.le_refl _) _⟩
end Go.Proofs.Ytnfpgipbgillaaa
