/- Walks: l91Nodes and the draws DrawNodesValid, DrawNodesNext, DrawNodesBefore. -/
import Derived.Test.YtkepfmekghbkeaaDraw3
import Derived.Deep.RegionWith
namespace Go.Proofs.Ytkepfmekghbkeaa
open Go.RowKit
set_option maxHeartbeats 400000
set_option linter.unusedVariables false
theorem OwnI.set_ {w : World} {base g c : Nat} {xs : List Int} (h : OwnI w base (some ⟨g, 0, none⟩) c xs) (i : Nat) (x : Int) : OwnI (w.setCell ⟨g, i, none⟩ (.int .i64 x)) base (some ⟨g, 0, none⟩) c (xs.set i x) := by
  have := (World.ownsRow.stored h i (.int .i64 x)).1
  unfold OwnI
  rw [List.length_set, List.map_set]
  exact this
theorem OwnI.cut0 {w : World} {base : Nat} {A : Option Addr} {c : Nat} {xs : List Int} (h : OwnI w base A c xs) : OwnI w base A c [] := by
  rcases h.2 with ⟨hv, h0⟩ | ⟨g, cap, cur, hv, hb, hg, h1, h2, h3, h4⟩
  · injection hv with e1 e2 e3
    subst e1 e3
    exact OwnI.none_ w base
  · injection hv with e1 e2 e3
    subst e1 e3
    exact ⟨by simp, .inr ⟨g, c, cur, rfl, hb, hg, Nat.zero_le _, h2, h3, by simp⟩⟩
theorem OwnI.cellAt {w : World} {base g c : Nat} {xs : List Int} (h : OwnI w base (some ⟨g, 0, none⟩) c xs) {j : Nat} {x : Int} (hx : xs[j]? = some x) : w.cell? ⟨g, j, none⟩ = some (.int .i64 x) := by
  have := h.cells j x hx
  rwa [add_at, Nat.zero_add] at this
theorem OwnI.free {w : World} {base g c : Nat} {xs : List Int} (h : OwnI w base (some ⟨g, 0, none⟩) c xs) (j : Nat) : w.frozen? ⟨g, j, none⟩ = false := World.ownsRow.frozenAt h j
theorem Rd.drew {w : World} {R M : Nat} (h : Rd w R M) : Rd w.drew R M := h.keep fun _ _ => rfl
theorem grown_undrew {w w' : World} {r : Option Nat} (h : w.drew.grownBy w' r) : w.grownBy w' r := ⟨h.os, h.tape, h.output, h.size, h.block⟩
def NodesAny (w : World) (R M : Nat) (e : Ending) (w' : World) : Prop := ∃ (A : Option Addr) (c : Nat) (xs : List Int),
  e = .returned (.slice A xs.length c) ∧ OwnI w' w.heap.size A c xs ∧ xs.length ≤ 20 ∧ (∀ x ∈ xs, -1 ≤ x ∧ x ≤ 64) ∧ Rd w' R (M + 15) ∧ w.grownBy w' (some R)
theorem grown_set {w w' : World} {R g : Nat} (h : w.grownBy w' (some R)) (hg : w.heap.size ≤ g) (i : Nat) (u : Value) : w.grownBy (w'.setCell ⟨g, i, none⟩ u) (some R) :=
  ⟨h.os, h.tape, h.output, by simpa [World.setCell] using h.size, fun k hk hne => (Below.heap_setCell w' ⟨g, i, none⟩ u k (by simp; omega)).trans (h.block k hk hne)⟩
theorem Rd.set_ {w : World} {R M g : Nat} (h : Rd w R M) (hg : R < g) (i : Nat) (u : Value) : Rd (w.setCell ⟨g, i, none⟩ u) R M := h.keep fun k hk => Below.heap_setCell w ⟨g, i, none⟩ u k (by simp; omega)
theorem grown_wide {w w' w'' : World} {R : Nat} {r : Option Nat} (h : w.grownBy w' (some R)) (k : w'.grownBy w'' r) (hr : ∀ b, r = some b → w.heap.size ≤ b) : w.grownBy w'' (some R) :=
  ⟨k.os.trans h.os, k.tape.trans h.tape, k.output.trans h.output, Nat.le_trans h.size k.size, fun b hb hne => (k.block b (Nat.lt_of_lt_of_le hb h.size) (fun e => by have := hr b e.symm; omega)).trans (h.block b hb hne)⟩

theorem nodes_any (R M : Nat) (hM : M ≤ 80000) (w : World) (h : Rd w R M) : Calls Try.prog 45 #[.pointer (some ⟨R, 0, none⟩)] w (NodesAny w R M) := by
  obtain ⟨i0, hi, hz0, hz1, hz2⟩ := info_parts int_info
  have HI := Lib.hid hi
  have HZ0 := Lib.hid hz0
  have HZ1 := Lib.hid hz1
  have HZ2 := Lib.hid hz2
  clear hi hz0 hz1 hz2
  have hR := h.lt
  go_enter Try.func45, Try.ntmps45
  go_wp2_with fail
  refine (good_any R M 1 (by omega) (by omega) (by omega) w h).mono ?_; rintro e w1 ⟨A, c, xs, rfl, ho, hl1, hl2, hx, hr, hg⟩
  obtain ⟨g, rfl⟩ := ho.some_ (by omega)
  clear h
  go_wp2_with fail
  refine (pick_any R (M + 11) 20 (by omega) (by omega) (by omega) _ hr).mono ?_; rintro e w2 ⟨k, k0, k1, rfl, hr2, hg2⟩
  replace ho := ho.grown hg2 hR
  replace hg := grown_next hg hg2
  have hgb : w.heap.size ≤ g := ho.row g rfl
  clear hr hg2
  by_cases hk0 : k = 0
  · subst hk0
    go_wp2_with fail
    refine (pick_any R (M + 12) xs.length (by omega) (by omega) (by omega) _ hr2).mono ?_; rintro e w3 ⟨i, i0', i1, rfl, hr3, hg3⟩
    replace ho := ho.grown hg3 hR
    replace hg := grown_next hg hg3
    go_wp2_with fail
    refine (rpoint_any R (M + 13) (by omega) _ hr3).mono ?_; rintro e w4 ⟨v, v0, v1, rfl, hr4, hg4⟩
    replace ho := ho.grown hg4 hR
    replace hg := grown_next hg hg4
    obtain ⟨i, rfl⟩ := Int.eq_ofNat_of_zero_le i0'
    have hlt : i < xs.length := by omega
    have hc := ho.cellAt (List.getElem?_eq_getElem hlt)
    have hf := ho.free i
    obtain ⟨y, hy⟩ : ∃ y, xs[i] = y := ⟨_, rfl⟩
    rw [hy] at hc
    clear hy
    go_wp2
    go_ret
    refine ⟨_, c, xs.set i v, by rw [List.length_set]; rfl, ho.set_ i v, by rw [List.length_set]; omega, fun z hz => ?_, (hr4.set_ (by omega) i _).more (by omega), grown_set hg hgb i _⟩
    rcases List.mem_or_eq_of_mem_set hz with h1 | h1
    · have := hx z h1; omega
    · subst h1; exact ⟨v0, v1⟩
  · have hk0' : (k == 0) = false := by rw [beq_eq_false_iff_ne]; exact hk0
    by_cases hk1 : k = 1
    · subst hk1
      go_wp2_with (at_builtin; refine list_app rfl Try.underlying23 HI.out HZ0.out HZ1.out HZ2.out (.tmp 20) (.tmp 21) rfl rfl rfl ho rfl ho.src (by omega) (by have := hg.size; omega) ?_; intro A2 c2 w3 ho2 hg3 hat)
      go_ret
      refine ⟨A2, c2, xs ++ xs, by rw [List.length_append]; rfl, ho2, by simp; omega, fun z hz => ?_, ?_, grown_wide hg hg3 ho.row⟩
      · rw [List.mem_append] at hz
        have := hx z (by rcases hz with h | h <;> exact h)
        omega
      · exact (hr2.keep fun b hb => hg3.block b (Nat.lt_of_le_of_lt hb hr2.lt) (fun e => by have := ho.row b e.symm; omega)).more (by omega)
    · have hk1' : (k == 1) = false := by rw [beq_eq_false_iff_ne]; exact hk1
      by_cases hk2 : k = 2
      · subst hk2
        go_wp2
        go_ret
        exact ⟨_, c, [], rfl, ho.cut0, by simp, fun z hz => by simp at hz, hr2.more (by omega), hg⟩
      · have hk2' : (k == 2) = false := by rw [beq_eq_false_iff_ne]; exact hk2
        go_wp2
        go_ret
        exact ⟨_, c, xs, rfl, ho, by omega, fun z hz => by have := hx z hz; omega, hr2.more (by omega), hg⟩

def DrewNodes (w : World) (e : Ending) (w' : World) : Prop := ∃ (A : Option Addr) (c : Nat) (xs : List Int),
  e = .returned (.slice A xs.length c) ∧ OwnI w' w.heap.size A c xs ∧ xs.length ≤ 20 ∧ (∀ x ∈ xs, -1 ≤ x ∧ x ≤ 64) ∧ Below w.heap.size w w'
def DrewNodesKey (w : World) (e : Ending) (w' : World) : Prop := ∃ (A : Option Addr) (c : Nat) (xs : List Int) (key : Int),
  e = .returned (.tuple #[.slice A xs.length c, .int .i64 key]) ∧ OwnI w' w.heap.size A c xs ∧ xs.length ≤ 20 ∧ (∀ x ∈ xs, -1 ≤ x ∧ x ≤ 64) ∧ -1 ≤ key ∧ key ≤ 64 ∧ Below w.heap.size w w'
end Go.Proofs.Ytkepfmekghbkeaa
