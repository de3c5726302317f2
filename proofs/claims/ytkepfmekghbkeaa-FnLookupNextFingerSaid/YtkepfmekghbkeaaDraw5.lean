/- Walks: the draws of nodes with one of them, with keys: l91One, DrawFingersOf, DrawLookupNext, DrawLookupPath, DrawLookupRange. -/
import Derived.Test.YtkepfmekghbkeaaDraw4
namespace Go.Proofs.Ytkepfmekghbkeaa
open Go.RowKit
set_option maxHeartbeats 4000000
set_option linter.unusedVariables false
def OneAny (w : World) (R M : Nat) (e : Ending) (w' : World) : Prop := ∃ (A : Option Addr) (c : Nat) (xs : List Int) (id : Int),
  e = .returned (.tuple #[.slice A xs.length c, .int .i64 id]) ∧ OwnI w' w.heap.size A c xs ∧ xs.length ≤ 20 ∧ (∀ x ∈ xs, -1 ≤ x ∧ x ≤ 64) ∧ (-1 ≤ id ∧ id ≤ 64) ∧ Rd w' R (M + 18) ∧ w.grownBy w' (some R)
theorem one_any (R M : Nat) (hM : M ≤ 70000) (w : World) (h : Rd w R M) : Calls Try.prog 30 #[.pointer (some ⟨R, 0, none⟩)] w (OneAny w R M) := by
  have hR := h.lt
  go_enter Try.func30, Try.ntmps30
  go_wp2_with fail
  refine (nodes_any R M (by omega) w h).mono ?_; rintro e w1 ⟨A', c', ys, rfl, ho, hl, hx, hr1, hg1⟩
  clear h
  go_wp2_with fail
  refine (pick_any _ (M + 15) 12 (by omega) (by omega) (by omega) _ hr1).mono ?_; rintro e w2 ⟨k, k0, k1, rfl, hr2, hg2⟩
  replace ho := ho.grown hg2 hR
  replace hg1 := grown_next hg1 hg2
  clear hr1 hg2
  by_cases hk : k = 0
  · subst hk
    go_wp2_with fail
    refine (rpoint_any _ (M + 16) (by omega) _ hr2).mono ?_; rintro e w3 ⟨v, v0, v1, rfl, hr3, hg3⟩
    go_wp2
    go_ret2
    exact ⟨_, c', ys, v, rfl, ho.grown hg3 hR, hl, hx, ⟨v0, v1⟩, hr3.more (by omega), grown_next hg1 hg3⟩
  · have hk' : (k == 0) = false := by rw [beq_eq_false_iff_ne]; exact hk
    clear hk
    by_cases hz : ys.length = 0
    · have hnil := List.eq_nil_of_length_eq_zero hz
      subst hnil
      clear hz
      go_wp2_with fail
      refine (rpoint_any _ (M + 16) (by omega) _ hr2).mono ?_; rintro e w3 ⟨v, v0, v1, rfl, hr3, hg3⟩
      go_wp2
      go_ret2
      exact ⟨_, c', [], v, rfl, ho.grown hg3 hR, hl, hx, ⟨v0, v1⟩, hr3.more (by omega), grown_next hg1 hg3⟩
    · have hlen : 0 < ys.length := by omega
      have hz' : ((ys.length : Int) == 0) = false := by rw [beq_eq_false_iff_ne]; omega
      obtain ⟨g, rfl⟩ := ho.some_ hlen
      clear hz
      go_wp2_with fail
      go_region_with (go_at_call 46
                      refine (pick_any _ (M + 16) ys.length (by omega) (by omega) (by omega) _ ?_).mono ?_
                      · exact hr2.drew
                      rintro e w4 ⟨i, i0', i1, rfl, hr4, hg4'⟩
                      have hg4 := grown_undrew hg4'
                      clear hg4'
                      obtain ⟨i, rfl⟩ := Int.eq_ofNat_of_zero_le i0'
                      have hlt : i < ys.length := by omega
                      have ho4 := OwnI.grown ho hg4 hR
                      have hc := ho4.cellAt (List.getElem?_eq_getElem hlt)
                      have hmem := hx ys[i] (List.getElem_mem hlt)
                      obtain ⟨y, hy⟩ : ∃ y, ys[i] = y := ⟨_, rfl⟩
                      rw [hy] at hc hmem
                      clear hy)
      all_goals
        go_wp2
        go_ret2
        exact ⟨_, c', ys, y, rfl, ho4, hl, hx, hmem, hr4.more (by omega), grown_next hg1 hg4⟩
def DrewNodes2 (w : World) (e : Ending) (w' : World) : Prop := ∃ (A : Option Addr) (c : Nat) (xs : List Int) (a b : Int),
  e = .returned (.tuple #[.slice A xs.length c, .int .i64 a, .int .i64 b]) ∧ OwnI w' w.heap.size A c xs ∧ xs.length ≤ 20 ∧ (∀ x ∈ xs, -1 ≤ x ∧ x ≤ 64) ∧ (-1 ≤ a ∧ a ≤ 64) ∧ (-1 ≤ b ∧ b ≤ 64) ∧ Below w.heap.size w w'
theorem drawLnx_any (A : Option Addr) (c : Nat) (xs : List Int) (w : World) (h : Arg .u8 w A c xs) : Calls Try.prog 15 #[.slice A xs.length c] w (DrewNodes2 w) := by
  have HO := Lib.hid (open_any A c xs w h)
  clear h
  go_enter Try.func15, Try.ntmps15
  go_wp2_with fail
  refine HO.out.mono ?_; rintro e w1 ⟨rfl, hr1, hb1⟩
  have hR := hr1.lt
  go_wp2_with fail
  refine (one_any _ 0 (by omega) w1 hr1).mono ?_; rintro e w2 ⟨A', c', ys, id, rfl, ho, hl, hx, hi, hr2, hg2⟩
  clear hr1
  go_wp2_with fail
  refine (rpoint_any _ 18 (by omega) _ hr2).mono ?_; rintro e w3 ⟨v, v0, v1, rfl, hr3, hg3⟩
  go_wp2
  go_ret3
  exact ⟨A', c', ys, id, v, rfl, (ho.grown hg3 hR).base hb1.size, hl, hx, hi, ⟨v0, v1⟩, below_reader (below_reader hb1 (Nat.le_refl _) hg2) (Nat.le_refl _) hg3⟩
theorem drawPath_any (A : Option Addr) (c : Nat) (xs : List Int) (w : World) (h : Arg .u8 w A c xs) : Calls Try.prog 10 #[.slice A xs.length c] w (DrewNodes2 w) := by
  have HO := Lib.hid (drawLnx_any A c xs w h)
  clear h
  go_enter Try.func10, Try.ntmps10
  go_wp2_with fail
  refine HO.out.mono ?_; rintro e w1 ⟨A', c', ys, id, v, rfl, h1, h2, h3, h4, h5, h6⟩
  go_wp2
  go_ret3
  exact ⟨A', c', ys, id, v, rfl, h1, h2, h3, h4, h5, h6⟩
end Go.Proofs.Ytkepfmekghbkeaa
