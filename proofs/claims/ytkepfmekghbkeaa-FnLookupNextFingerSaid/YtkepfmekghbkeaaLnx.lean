/- Walks: LookupNext of the implementation and of the reference, l11Next. -/
import Derived.Test.YtkepfmekghbkeaaFing
import Derived.Test.YtkepfmekghbkeaaHold
namespace Go.Proofs.Ytkepfmekghbkeaa
open Go.RowKit
set_option maxHeartbeats 4000000
set_option linter.unusedVariables false
theorem own_at {w : World} {base g c : Nat} {xs : List Int} (h : OwnI w base (some ⟨g, 0, none⟩) c xs) {j : Nat} {x : Int} (hx : xs[j]? = some x) : w.cell? ⟨g, j, none⟩ = some (.int .i64 x) := by
  have := h.cells j x hx
  rwa [add_at, Nat.zero_add] at this
theorem lnext_yes {xs : List Int} {id key : Int} (h : nodeOk xs id = true) (hk : pos key = true) : lnext xs id key = lnx xs id key := by unfold lnext; rw [if_pos ⟨h, hk⟩]
theorem lnext_no {xs : List Int} {id key : Int} (h : ¬ (nodeOk xs id = true ∧ pos key = true)) : lnext xs id key = -1 := by unfold lnext; rw [if_neg h]
theorem lnx_first {xs : List Int} {id key : Int} (h : rhld id (fing xs id 0) key = true) : lnx xs id key = fing xs id 0 := by unfold lnx; rw [if_pos h]
theorem lnx_later {xs : List Int} {id key : Int} (h : rhld id (fing xs id 0) key = false) : lnx xs id key = pickF xs id key 5 := by unfold lnx; rw [h]; rfl
theorem pickF_zero (xs : List Int) (id key : Int) : pickF xs id key 0 = fing xs id 0 := rfl
theorem pickF_hit {xs : List Int} {id key : Int} {j : Nat} (h : rbtw id (fing xs id (j + 1)) key = true) : pickF xs id key (j + 1) = fing xs id (j + 1) := by unfold pickF; rw [if_pos h]
theorem pickF_miss {xs : List Int} {id key : Int} {j : Nat} (h : rbtw id (fing xs id (j + 1)) key = false) : pickF xs id key (j + 1) = pickF xs id key j := by
  conv => lhs; unfold pickF
  rw [h]; rfl
theorem hld_all {a b k : Int} (ha : pos a = true) (hb : pos b = true) (hk : pos k = true) : hld a b k = rhld a b k := by unfold hld; simp [ha, hb, hk]
theorem ln_impl (B : Nat) (A : Option Addr) (c : Nat) (xs : List Int) (id key : Int) (hl : xs.length ≤ maxLen) (w : World) (hB : B ≤ w.heap.size) (h : NumsAt .i64 w B A xs) :
    Calls Try.prog 16 #[.slice A xs.length c, .int .i64 id, .int .i64 key] w fun e w' => e = .returned (.int .i64 (lnext xs id key)) ∧ Below w.heap.size w w' := by
  have HN := Lib.hid (isNode_any B A c xs id hl w h)
  have HC := Lib.hid (fgs_impl B A c xs id hl w hB h)
  clear h
  by_cases hall : nodeOk xs id = true ∧ pos key = true
  · obtain ⟨hn, hk⟩ := hall
    obtain ⟨hv, hid⟩ := nodeOk_iff.1 hn
    have hip := node_pos hv hid
    have HF := Lib.hid (fgs_yes hn)
    have H := Lib.hid (lnext_yes hn hk)
    have HH := fun (i : Nat) => Lib.hid (hld_all hip (node_pos hv (fing_mem hv id i)) hk)
    have HB := fun (i : Nat) => Lib.hid (btw_all hip (node_pos hv (fing_mem hv id i)) hk)
    clear hv hid
    go_enter Try.func16, Try.ntmps16
    go_wp2_with (first
      | (go_at_call 21; refine (HN.out).mono ?_; rw [hn]; rintro e w' ⟨rfl, rfl⟩)
      | (go_at_call 22; refine (ok_any _ _).mono ?_; rw [hk]; rintro e w' ⟨rfl, rfl⟩)
      | (go_at_call 18
         refine (HC.out).mono ?_
         rw [HF.out]
         rintro e w1 ⟨A1, c1, rfl, ho, hb1⟩
         obtain ⟨g, rfl⟩ := ho.some_ (by rw [fingTo_len]; omega)
         rw [fingTo_len]
         have HE := fun (W : World) (j : Nat) (hj : j < 6) (hh : OwnI W w.heap.size (some ⟨g, 0, none⟩) c1 (fingTo xs id 6)) => own_at hh (fingTo_at xs id 6 j hj)
         have d0 := HE w1 0 (by omega) ho
         generalize hf0 : fing xs id 0 = f0 at d0
         have HF0 := Lib.hid hf0
         clear hf0
         have HO := Lib.hid ho
         clear ho)
      | fail)
    refine (ch_impl id f0 key _).mono ?_
    have hh0 := HH 0
    rw [HF0.out] at hh0
    rw [hh0.out]
    have hbx := hb1
    cases hr : rhld id f0 key
    · have HL := Lib.hid (lnx_later (xs := xs) (id := id) (key := key) (by rw [HF0.out]; exact hr))
      rintro e w2 ⟨rfl, hb2⟩
      have hB2 := below_next hb1 hb2
      have ho2 := HO.out.below hb2 (Nat.le_refl _)
      clear hb1 hb2 d0 hbx hh0 HO HC HN
      go_wp2_with fail
      go_loopw [8] (fun i wr => ∃ j : Nat, j ≤ 5 ∧ i = .int .i64 j ∧ pickF xs id key 5 = pickF xs id key j ∧ OwnI wr w.heap.size (some ⟨g, 0, none⟩) c1 (fingTo xs id 6) ∧ Below w.heap.size w wr) (fun i _ => (intOf i).toNat)
      case atStart => exact ⟨5, by omega, rfl, rfl, ho2, hB2⟩
      case round =>
        clear ho2 hB2
        obtain ⟨j, hj, rfl, hp, ho, hb⟩ := hrel
        have HP := Lib.hid hp
        clear hp
        rcases j with _ | j
        · have d0 := HE wr 0 (by omega) ho
          rw [HF0.out] at d0
          have HZ := Lib.hid (pickF_zero xs id key)
          clear ho HE
          go_wp2
          go_ret
          exact ⟨ret_int (by rw [H.out, HL.out, HP.out, HZ.out, HF0.out]), hb⟩
        · have d := HE wr (j + 1) (by omega) ho
          have HM := Lib.hid (pickF_miss (xs := xs) (id := id) (key := key) (j := j))
          have HT := Lib.hid (pickF_hit (xs := xs) (id := id) (key := key) (j := j))
          have hb0 := HB (j + 1)
          generalize fing xs id (j + 1) = f at d HM HT hb0
          have HO := Lib.hid ho
          clear ho
          cases hr2 : rbtw id f key
          · go_wp2_with (go_at_call 19; refine (cb_impl _ _ _ _).mono ?_; rw [hb0.out, hr2]; rintro e w3 ⟨rfl, hb3⟩)
            go_roundw
            case rel => exact ⟨j, by omega, by go_num, by rw [HP.out]; exact HM.out hr2, HO.out.below hb3 (Nat.le_refl _), below_next hb hb3⟩
            case measure => simp [intOf]
          · go_wp2_with (go_at_call 19; refine (cb_impl _ _ _ _).mono ?_; rw [hb0.out, hr2]; rintro e w3 ⟨rfl, hb3⟩; replace d := (hb3.cell (World.block_lt_of_cell? wr _ d)).trans d)
            go_ret
            exact ⟨ret_int (by rw [H.out, HL.out, HP.out, HT.out hr2]), below_next hb hb3⟩
    · have HL := Lib.hid (lnx_first (xs := xs) (id := id) (key := key) (by rw [HF0.out]; exact hr))
      rintro e w2 ⟨rfl, hb2⟩
      replace d0 := (hb2.cell (World.block_lt_of_cell? w1 _ d0)).trans d0
      clear HE
      go_wp2
      go_ret
      exact ⟨ret_int (by rw [H.out, HL.out, HF0.out]), below_next hb1 hb2⟩
  · have H := Lib.hid (lnext_no hall)
    have hcase : nodeOk xs id = false ∨ (nodeOk xs id = true ∧ pos key = false) := by
      cases hn : nodeOk xs id
      · exact .inl rfl
      · cases hk : pos key
        · exact .inr ⟨rfl, rfl⟩
        · exact absurd ⟨hn, hk⟩ hall
    clear hall
    rcases hcase with hn | ⟨hn, hk⟩
    all_goals
      go_enter Try.func16, Try.ntmps16
      go_wp2_with (first
        | (go_at_call 21; refine (HN.out).mono ?_; rw [hn]; rintro e w' ⟨rfl, rfl⟩)
        | (go_at_call 22; refine (ok_any _ _).mono ?_; rw [hk]; rintro e w' ⟨rfl, rfl⟩))
      go_ret
      exact ⟨ret_int H.out.symm, Below.refl _ _⟩
theorem sln_any (B : Nat) (A : Option Addr) (c : Nat) (xs : List Int) (id key : Int) (hv : nval xs = true) (hid : id ∈ xs) (hl : xs.length ≤ maxLen) (w : World) (hB : B ≤ w.heap.size) (h : NumsAt .i64 w B A xs) :
    Calls Try.prog 28 #[.slice A xs.length c, .int .i64 id, .int .i64 key] w fun e w' => e = .returned (.int .i64 (lnx xs id key)) ∧ Below w.heap.size w w' := by
  have hip := pos_iff.1 (node_pos hv hid)
  have HC := Lib.hid (sfgs_any B A c xs id (nval_len hv).1 hl hip.1 hip.2 w hB h)
  clear h hv hid hip
  go_enter Try.func28, Try.ntmps28
  go_wp2_with fail
  refine (HC.out).mono ?_
  rintro e w1 ⟨A1, c1, rfl, ho, hb1⟩
  obtain ⟨g, rfl⟩ := ho.some_ (by rw [fingTo_len]; omega)
  rw [fingTo_len]
  have HE := fun (W : World) (j : Nat) (hj : j < 6) (hh : OwnI W w.heap.size (some ⟨g, 0, none⟩) c1 (fingTo xs id 6)) => own_at hh (fingTo_at xs id 6 j hj)
  have d0 := HE w1 0 (by omega) ho
  generalize hf0 : fing xs id 0 = f0 at d0
  have HF0 := Lib.hid hf0
  clear hf0
  have HO := Lib.hid ho
  clear ho
  go_wp2_with fail
  refine (shld_any id f0 key _).mono ?_
  cases hr : rhld id f0 key
  · have HL := Lib.hid (lnx_later (xs := xs) (id := id) (key := key) (by rw [HF0.out]; exact hr))
    rintro e w2 ⟨rfl, rfl⟩
    have ho2 := HO.out
    clear d0 HO HC
    go_wp2_with fail
    go_loopw [8] (fun i wr => ∃ j : Nat, j ≤ 5 ∧ i = .int .i64 j ∧ pickF xs id key 5 = pickF xs id key j ∧ OwnI wr w.heap.size (some ⟨g, 0, none⟩) c1 (fingTo xs id 6) ∧ Below w.heap.size w wr) (fun i _ => (intOf i).toNat)
    case atStart => exact ⟨5, by omega, rfl, rfl, ho2, hb1⟩
    case round =>
      clear ho2 hb1
      obtain ⟨j, hj, rfl, hp, ho, hb⟩ := hrel
      have HP := Lib.hid hp
      clear hp
      rcases j with _ | j
      · have d0 := HE wr 0 (by omega) ho
        rw [HF0.out] at d0
        have HZ := Lib.hid (pickF_zero xs id key)
        clear ho HE
        go_wp2
        go_ret
        exact ⟨ret_int (by rw [HL.out, HP.out, HZ.out, HF0.out]), hb⟩
      · have d := HE wr (j + 1) (by omega) ho
        have HM := Lib.hid (pickF_miss (xs := xs) (id := id) (key := key) (j := j))
        have HT := Lib.hid (pickF_hit (xs := xs) (id := id) (key := key) (j := j))
        generalize fing xs id (j + 1) = f at d HM HT
        have HO := Lib.hid ho
        clear ho
        cases hr2 : rbtw id f key
        · go_wp2_with (go_at_call 44; refine (sbtw_any _ _ _ _).mono ?_; rw [hr2]; rintro e w3 ⟨rfl, rfl⟩)
          go_roundw
          case rel => exact ⟨j, by omega, by go_num, by rw [HP.out]; exact HM.out hr2, HO.out, hb⟩
          case measure => simp [intOf]
        · go_wp2_with (go_at_call 44; refine (sbtw_any _ _ _ _).mono ?_; rw [hr2]; rintro e w3 ⟨rfl, rfl⟩)
          go_ret
          exact ⟨ret_int (by rw [HL.out, HP.out, HT.out hr2]), hb⟩
  · have HL := Lib.hid (lnx_first (xs := xs) (id := id) (key := key) (by rw [HF0.out]; exact hr))
    rintro e w2 ⟨rfl, rfl⟩
    clear HE
    go_wp2
    go_ret
    exact ⟨ret_int (by rw [HL.out, HF0.out]), hb1⟩
theorem ln_spec (B : Nat) (A : Option Addr) (c : Nat) (xs : List Int) (id key : Int) (hl : xs.length ≤ maxLen) (w : World) (hB : B ≤ w.heap.size) (h : NumsAt .i64 w B A xs) :
    Calls Try.prog 17 #[.slice A xs.length c, .int .i64 id, .int .i64 key] w fun e w' => e = .returned (.int .i64 (lnext xs id key)) ∧ Below w.heap.size w w' := by
  have HN := Lib.hid (l11Ok_any B A c xs id hl w h)
  by_cases hall : nodeOk xs id = true ∧ pos key = true
  · obtain ⟨hn, hk⟩ := hall
    obtain ⟨hv, hid⟩ := nodeOk_iff.1 hn
    have H := Lib.hid (lnext_yes hn hk)
    have HC := fun n => Lib.hid (sln_any B A c xs id key hv hid hl (w.drewN n) hB (h.drewN n))
    clear h hv hid
    go_enter Try.func17, Try.ntmps17
    go_wp2_with (first
      | (go_at_call 25; refine (HN.out).mono ?_; rw [hn]; rintro e w' ⟨rfl, n, rfl⟩)
      | (go_at_call 26; refine (point_any _ _).mono ?_; rw [hk]; rintro e w' ⟨rfl, rfl⟩)
      | (go_at_call 28; refine ((HC _).out).mono ?_; rintro e w2 ⟨rfl, hb⟩))
    go_ret
    exact ⟨ret_int H.out.symm, (below_draw ⟨n, rfl⟩).trans hb⟩
  · have H := Lib.hid (lnext_no hall)
    clear h
    have hcase : nodeOk xs id = false ∨ (nodeOk xs id = true ∧ pos key = false) := by
      cases hn : nodeOk xs id
      · exact .inl rfl
      · cases hk : pos key
        · exact .inr ⟨rfl, rfl⟩
        · exact absurd ⟨hn, hk⟩ hall
    clear hall
    rcases hcase with hn | ⟨hn, hk⟩
    all_goals
      go_enter Try.func17, Try.ntmps17
      go_wp2_with (first
        | (go_at_call 25; refine (HN.out).mono ?_; rw [hn]; rintro e w' ⟨rfl, n, rfl⟩)
        | (go_at_call 26; refine (point_any _ _).mono ?_; rw [hk]; rintro e w' ⟨rfl, rfl⟩))
      go_ret
      exact ⟨ret_int H.out.symm, below_draw ⟨n, rfl⟩⟩
end Go.Proofs.Ytkepfmekghbkeaa
