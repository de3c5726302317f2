/- Walks: the laws' helpers on slices of integers: toIntS (a copy), eqIntS, hasInt, and the reference's l1Has. -/
import Derived.Test.YtmhneigglmingaaBase
import Derived.Maps.AppendAt
namespace Go.Proofs.Ytmhneigglmingaa
open Go.RowKit
set_option maxHeartbeats 400000
set_option linter.unusedVariables false
theorem int_info : (Try.prog.info? 3).map (fun i => (i.zero, i.size, i.bytes)) = some (some (.int .i64 0), 1, 8) := by kernel_rfl

def fillTo (xs : List Int) (k : Nat) : List Int := xs.take k ++ List.replicate (xs.length - k) 0
theorem fillTo_len (xs : List Int) (k : Nat) (hk : k ≤ xs.length) : (fillTo xs k).length = xs.length := by simp [fillTo]; omega
theorem fillTo_zero (xs : List Int) : fillTo xs 0 = List.replicate xs.length 0 := by simp [fillTo]
theorem fillTo_all (xs : List Int) : fillTo xs xs.length = xs := by simp [fillTo]
theorem fillTo_set (xs : List Int) (k : Nat) (x : Int) (hx : xs[k]? = some x) : (fillTo xs k).set k x = fillTo xs (k + 1) := by
  obtain ⟨hk, rfl⟩ := List.getElem?_eq_some_iff.1 hx
  have hm : (xs.take k).length = k := by simp; omega
  unfold fillTo
  rw [show xs.length - k = (xs.length - (k + 1)) + 1 from by omega, List.replicate_succ, List.set_append_right _ _ (by omega), hm, Nat.sub_self, List.set_cons_zero, List.take_succ_eq_append_getElem hk, List.append_assoc]
  rfl
theorem fillTo_at (xs : List Int) (k : Nat) (hk : k < xs.length) : (fillTo xs k)[k]? = some 0 := by
  have hm : (xs.take k).length = k := by simp; omega
  unfold fillTo
  rw [List.getElem?_append_right (by omega), hm, Nat.sub_self, List.getElem?_replicate, if_pos (by omega)]

/-- The row '.slice (some ⟨g, 0, none⟩) n n' while it is being filled. -/
def Filling (w : World) (g : Nat) (xs : List Int) (k : Nat) : Prop :=
  w.ownsRow g 3 1 (.slice (some ⟨g, 0, none⟩) xs.length xs.length) xs.length ((fillTo xs k).map (Value.int .i64))
theorem Filling.cell {w : World} {g : Nat} {xs : List Int} {k : Nat} (h : Filling w g xs k) (hk : k < xs.length) : w.cell? ⟨g, k, none⟩ = some (.int .i64 0) := by
  rw [World.ownsRow.cellAt h k (by omega)]; simp [fillTo_at xs k hk]
theorem Filling.frozen {w : World} {g : Nat} {xs : List Int} {k : Nat} (h : Filling w g xs k) : w.frozen? ⟨g, k, none⟩ = false := World.ownsRow.frozenAt h k
theorem Filling.step {w : World} {g : Nat} {xs : List Int} {k : Nat} {x : Int} (h : Filling w g xs k) (hx : xs[k]? = some x) : Filling (w.setCell ⟨g, k, none⟩ (.int .i64 x)) g xs (k + 1) := by
  have := (World.ownsRow.stored h k (.int .i64 x)).1
  unfold Filling
  rw [← fillTo_set xs k x hx, List.map_set]
  exact this

theorem toIntS_any (B : Nat) (A : Option Addr) (c : Nat) (xs : List Int) (hl : xs.length ≤ 1048576) (w : World) (hB : B ≤ w.heap.size) (h : NumsAt .i64 w B A xs) :
    Calls Try.prog 15 #[.slice A xs.length c] w fun e w' => e = .returned (.slice (some ⟨w.heap.size, 0, none⟩) xs.length xs.length) ∧ OwnI w' w.heap.size (some ⟨w.heap.size, 0, none⟩) xs.length xs ∧ Below w.heap.size w w' := by
  obtain ⟨i0, hi, hz0, hz1, hz2⟩ := info_parts int_info
  have HI := Lib.hid hi
  have HZ0 := Lib.hid hz0
  have HZ1 := Lib.hid hz1
  have HZ2 := Lib.hid hz2
  clear hi hz0 hz1 hz2
  go_enter Try.func15, Try.ntmps15
  go_wp2_with (at_make; refine wpList_make_full w rfl _ _ _ rfl w.heap.size 3 i0 (.int .i64 0) 1 Try.underlying29 HI.out HZ0.out HZ1.out .i64 .i64 _ _ xs.length rfl rfl rfl rfl (by rw [HZ2.out]; omega) (by unfold maxLen; omega) (Nat.le_refl _) ?_; intro w1 hown1 hg1)
  have hF : Filling w1 w.heap.size xs 0 := by
    unfold Filling; rw [fillTo_zero]
    simpa [Value.cells, toList_madeCells_one] using hown1
  have hb1 : Below w.heap.size w w1 := (Below.refl _ _).grown hg1 (Nat.le_refl _) (by simp)
  clear hown1 hg1
  go_loopw [4] (fun i wr => ∃ k : Nat, k ≤ xs.length ∧ i = .int .i64 k ∧ Filling wr w.heap.size xs k ∧ Below w.heap.size w wr) (fun i _ => xs.length - (intOf i).toNat)
  case atStart => exact ⟨0, Nat.zero_le _, rfl, hF, hb1⟩
  case round =>
    obtain ⟨k, hk, rfl, hf, hb⟩ := hrel
    clear hF hb1
    by_cases hlt : k < xs.length
    · obtain ⟨ad, x, rfl, -, hx, hc⟩ := (h.below (hb.mono hB)) k hlt
      have HX := Lib.hid hx
      have hc1 := hf.cell hlt
      have hz1 := hf.frozen
      clear h hx
      go_wp2
      go_roundw
      case rel => exact ⟨k + 1, by omega, by go_num, hf.step HX.out, hb.setCell (p := ⟨w.heap.size, k, none⟩) (Nat.le_refl _) _⟩
      case measure => simp [intOf]; omega
    · clear h
      go_wp2
      go_ret
      have : k = xs.length := by omega
      subst this
      exact ⟨rfl, by have := hf; unfold Filling at this; rw [fillTo_all] at this; exact this, hb⟩
/-- The two lists agree up to k. -/
def eqTo (xs ys : List Int) (k : Nat) : Prop := ∀ i, i < k → xs[i]? = ys[i]?
theorem eqTo_end {xs ys : List Int} (hl : xs.length = ys.length) (h : eqTo xs ys xs.length) : xs = ys := by
  apply List.ext_getElem?
  intro i
  by_cases hi : i < xs.length
  · exact h i hi
  · rw [List.getElem?_eq_none (by omega), List.getElem?_eq_none (by omega)]
theorem eqTo_step {xs ys : List Int} {k : Nat} {x : Int} (h : eqTo xs ys k) (hx : xs[k]? = some x) (hy : ys[k]? = some x) : eqTo xs ys (k + 1) := by
  intro i hi
  by_cases h' : i = k
  · rw [h', hx, hy]
  · exact h i (by omega)
theorem eqIntS_any (B : Nat) (A A' : Option Addr) (c c' : Nat) (xs ys : List Int) (hlx : xs.length ≤ maxLen) (hly : ys.length ≤ maxLen) (w : World) (h : NumsAt .i64 w B A xs) (h' : NumsAt .i64 w B A' ys) :
    Calls Try.prog 17 #[.slice A xs.length c, .slice A' ys.length c'] w fun e w' => e = .returned (.bool (decide (xs = ys))) ∧ Below w.heap.size w w' := by
  unfold maxLen at hlx hly
  by_cases hl : xs.length = ys.length
  · have hl' : ((xs.length : Int) != (ys.length : Int)) = false := by simp; omega
    have HL := Lib.hid hl
    clear hl
    go_enter Try.func17, Try.ntmps17
    go_wp2
    go_loopw [5] (fun i wr => ∃ k : Nat, k ≤ xs.length ∧ i = .int .i64 k ∧ eqTo xs ys k ∧ ∃ n, wr = w.drewN n) (fun i _ => xs.length - (intOf i).toNat)
    case atStart => exact ⟨0, Nat.zero_le _, rfl, fun i hi => absurd hi (by omega), 0, rfl⟩
    case round =>
      obtain ⟨k, hk, rfl, hall, hw⟩ := hrel
      have Hall := Lib.hid hall
      have HW := Lib.hid hw
      replace h : NumsAt .i64 wr B A xs := by obtain ⟨n, rfl⟩ := hw; exact h.drewN n
      replace h' : NumsAt .i64 wr B A' ys := by obtain ⟨n, rfl⟩ := hw; exact h'.drewN n
      clear hall hw
      by_cases hlt : k < xs.length
      · have hlt' : k < ys.length := by have := HL.out; omega
        obtain ⟨ad, x, rfl, -, hx, hc⟩ := h k hlt
        obtain ⟨ad', y, rfl, -, hy, hc'⟩ := h' k hlt'
        have HX := Lib.hid hx
        have HY := Lib.hid hy
        clear h h' hx hy
        by_cases hxy : x = y
        · subst hxy
          go_wp2
          go_quiet (fail)
          go_wp2
          go_roundw
          case rel => exact ⟨k + 1, by omega, by go_num, eqTo_step Hall.out HX.out HY.out, drewN_more HW.out⟩
          case measure => simp [intOf]; omega
        · have hne : (x != y) = true := by simpa using hxy
          have HN := Lib.hid (show decide (xs = ys) = false from by
            rw [decide_eq_false_iff_not]; intro e; rw [e, HY.out] at HX; injection HX.out with e'; exact hxy e'.symm)
          go_wp2
          go_quiet (fail)
          go_wp2
          go_ret
          exact ⟨ret_bool HN.out.symm, below_draw (drewN_more HW.out)⟩
      · clear h h'
        have HE := Lib.hid (show decide (xs = ys) = true from by
          rw [decide_eq_true_iff]; refine eqTo_end HL.out ?_; have : k = xs.length := by omega
          rw [← this]; exact Hall.out)
        go_wp2
        go_ret
        exact ⟨ret_bool HE.out.symm, below_draw HW.out⟩
  · have hl' : ((xs.length : Int) != (ys.length : Int)) = true := by simp; omega
    have HN := Lib.hid (show decide (xs = ys) = false from by rw [decide_eq_false_iff_not]; intro e; rw [e] at hl; exact hl rfl)
    clear hl
    go_enter Try.func17, Try.ntmps17
    go_wp2
    go_ret
    exact ⟨ret_bool HN.out.symm, Below.refl _ _⟩
def has (xs : List Int) (n : Int) : Bool := xs.any (fun x => x == n)
theorem has_hit (xs : List Int) (n : Int) (k : Nat) (hx : xs[k]? = some n) : has xs n = true := by
  unfold has; rw [List.any_eq_true]; exact ⟨n, List.mem_of_getElem? hx, by simp⟩
theorem has_miss (xs : List Int) (n : Int) (k : Nat) (x : Int) (h : has (xs.take k) n = false) (hx : xs[k]? = some x) (hn : x ≠ n) : has (xs.take (k + 1)) n = false := by
  unfold has at h ⊢
  rw [List.take_add_one, hx, List.any_append, h]; simpa using hn
theorem has_over (xs : List Int) (n : Int) (k : Nat) (h : has (xs.take k) n = false) (hk : xs.length ≤ k) : has xs n = false := by
  rwa [List.take_of_length_le hk] at h
theorem has_iff (xs : List Int) (n : Int) : has xs n = true ↔ n ∈ xs := by unfold has; simp
end Go.Proofs.Ytmhneigglmingaa
