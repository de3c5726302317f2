/- Walks: the laws' helpers on slices of integers: toIntS (a copy), eqIntS, hasInt, and the reference's l1Has. -/
import Derived.Test.YtkjolmbcafonaaaDoorBase
import Derived.Maps.AppendAt
namespace Go.Proofs.YtkjolmbcafonaaaDoor
open Go.RowKit
set_option maxHeartbeats 400000
set_option linter.unusedVariables false
theorem int_info : (Tryd.prog.info? 3).map (fun i => (i.zero, i.size, i.bytes)) = some (some (.int .i64 0), 1, 8) := by kernel_rfl

def fillTo (xs : List Int) (k : Nat) : List Int := xs.take k ++ List.replicate (xs.length - k) 0
theorem fillTo_len (xs : List Int) (k : Nat) (hk : k ≤ xs.length) : (fillTo xs k).length = xs.length := by simp [fillTo]; omega
theorem fillTo_zero (xs : List Int) : fillTo xs 0 = List.replicate xs.length 0 := by simp [fillTo]
theorem fillTo_all (xs : List Int) : fillTo xs xs.length = xs := by simp [fillTo]
theorem fillTo_set (xs : List Int) (k : Nat) (x : Int) (hx : xs[k]? = some x) : (fillTo xs k).set k x = fillTo xs (k + 1) := by
  obtain ⟨hk, rfl⟩ := List.getElem?_eq_some_iff.1 hx
  have hm : (xs.take k).length = k := by simp; omega
  unfold fillTo
  rw [show xs.length - k = (xs.length - (k + 1)) + 1 from by omega, List.replicate_succ, List.set_append_right _ _ (by omega), hm, Nat.sub_self, List.set_cons_zero, List.take_succ_eq_append_getElem hk, List.append_assoc]
  rfl
theorem fillTo_at (xs : List Int) (k : Nat) (hk : k < xs.length) : (fillTo xs k)[k]? = some 0 := by
  have hm : (xs.take k).length = k := by simp; omega
  unfold fillTo
  rw [List.getElem?_append_right (by omega), hm, Nat.sub_self, List.getElem?_replicate, if_pos (by omega)]

/-- The row '.slice (some ⟨g, 0, none⟩) n n' while it is being filled. -/
def Filling (w : World) (g : Nat) (xs : List Int) (k : Nat) : Prop :=
  w.ownsRow g 3 1 (.slice (some ⟨g, 0, none⟩) xs.length xs.length) xs.length ((fillTo xs k).map (Value.int .i64))
theorem Filling.cell {w : World} {g : Nat} {xs : List Int} {k : Nat} (h : Filling w g xs k) (hk : k < xs.length) : w.cell? ⟨g, k, none⟩ = some (.int .i64 0) := by
  rw [World.ownsRow.cellAt h k (by omega)]; simp [fillTo_at xs k hk]
theorem Filling.frozen {w : World} {g : Nat} {xs : List Int} {k : Nat} (h : Filling w g xs k) : w.frozen? ⟨g, k, none⟩ = false := World.ownsRow.frozenAt h k
theorem Filling.step {w : World} {g : Nat} {xs : List Int} {k : Nat} {x : Int} (h : Filling w g xs k) (hx : xs[k]? = some x) : Filling (w.setCell ⟨g, k, none⟩ (.int .i64 x)) g xs (k + 1) := by
  have := (World.ownsRow.stored h k (.int .i64 x)).1
  unfold Filling
  rw [← fillTo_set xs k x hx, List.map_set]
  exact this

/-- The two lists agree up to k. -/
def eqTo (xs ys : List Int) (k : Nat) : Prop := ∀ i, i < k → xs[i]? = ys[i]?
theorem eqTo_end {xs ys : List Int} (hl : xs.length = ys.length) (h : eqTo xs ys xs.length) : xs = ys := by
  apply List.ext_getElem?
  intro i
  by_cases hi : i < xs.length
  · exact h i hi
  · rw [List.getElem?_eq_none (by omega), List.getElem?_eq_none (by omega)]
theorem eqTo_step {xs ys : List Int} {k : Nat} {x : Int} (h : eqTo xs ys k) (hx : xs[k]? = some x) (hy : ys[k]? = some x) : eqTo xs ys (k + 1) := by
  intro i hi
  by_cases h' : i = k
  · rw [h', hx, hy]
  · exact h i (by omega)
def has (xs : List Int) (n : Int) : Bool := xs.any (fun x => x == n)
theorem has_hit (xs : List Int) (n : Int) (k : Nat) (hx : xs[k]? = some n) : has xs n = true := by
  unfold has; rw [List.any_eq_true]; exact ⟨n, List.mem_of_getElem? hx, by simp⟩
theorem has_miss (xs : List Int) (n : Int) (k : Nat) (x : Int) (h : has (xs.take k) n = false) (hx : xs[k]? = some x) (hn : x ≠ n) : has (xs.take (k + 1)) n = false := by
  unfold has at h ⊢
  rw [List.take_add_one, hx, List.any_append, h]; simpa using hn
theorem has_over (xs : List Int) (n : Int) (k : Nat) (h : has (xs.take k) n = false) (hk : xs.length ≤ k) : has xs n = false := by
  rwa [List.take_of_length_le hk] at h
theorem has_iff (xs : List Int) (n : Int) : has xs n = true ↔ n ∈ xs := by unfold has; simp
end Go.Proofs.YtkjolmbcafonaaaDoor
