/- Walks: impl.positions (for seats that have no circle's distances). -/
import Derived.Test.YtmhneigglmingaaPos
namespace Go.Proofs.Ytmhneigglmingaa
open Go.RowKit
set_option maxHeartbeats 400000
set_option linter.unusedVariables false
theorem positions_any (B : Nat) (A : Option Addr) (c : Nat) (xs : List Int) (hl : xs.length ≤ maxLen) (w : World) (h : NumsAt .i64 w B A xs) :
    Calls Try.prog 34 #[.slice A xs.length c] w fun e w' => e = .returned (.bool (xs.all pos)) ∧ w = w' := by
  unfold maxLen at hl
  go_enter Try.func34, Try.ntmps34
  go_wp2
  go_loop [7] (fun i => ∃ k : Nat, k ≤ xs.length ∧ i = .int .i64 k ∧ (xs.take k).all pos = true) (fun i => xs.length - (intOf i).toNat)
  case atStart => exact ⟨0, Nat.zero_le _, rfl, rfl⟩
  case round =>
    obtain ⟨k, hk, rfl, hall⟩ := hrel
    have Hall := Lib.hid hall
    clear hall
    by_cases hlt : k < xs.length
    · obtain ⟨ad, x, rfl, -, hx, hc⟩ := h k hlt
      have HS := Lib.hid (all_step xs pos k x hx)
      have HX := Lib.hid hx
      clear h hx
      by_cases hp : pos x = true
      · go_wp2_with (go_at_call 33; refine (ok_any _ _).mono ?_; rintro e w' ⟨rfl, rfl⟩)
        go_round
        case rel => exact ⟨k + 1, by omega, by go_num, by rw [HS.out, Hall.out, hp]; rfl⟩
        case measure => simp [intOf]; omega
      · have hp : pos x = false := by simpa using hp
        have HF := Lib.hid (all_false xs pos k x HX.out hp)
        go_wp2_with (go_at_call 33; refine (ok_any _ _).mono ?_; rintro e w' ⟨rfl, rfl⟩)
        go_ret
        exact ⟨ret_bool HF.out.symm, rfl⟩
    · clear h
      go_wp2
      go_ret
      refine ⟨ret_bool ?_, rfl⟩
      have : k = xs.length := by omega
      subst this
      rw [← Hall.out]; simp

/-- positions over two numbers that lie in a new block. -/
def allPos (xs : List Int) : Bool := xs.all pos
theorem allPos2 (a b : Int) : allPos [a, b] = (pos a && pos b) := by simp [allPos]
theorem allPos3 (a b c : Int) : allPos [a, b, c] = (pos a && (pos b && pos c)) := by simp [allPos]
theorem allPos4 (a b c d : Int) : allPos [a, b, c, d] = (pos a && (pos b && (pos c && pos d))) := by simp [allPos]
theorem NumsAt.lit (w : World) (xs : List Int) : NumsAt .i64 (w.alloc (.cells (xs.map (Value.int .i64)).toArray 3)) (w.heap.size + 1) (some ⟨w.heap.size, 0, none⟩) xs := by
  intro k hk
  refine ⟨_, xs[k], rfl, by simp, List.getElem?_eq_getElem hk, ?_⟩
  have hadd : (⟨w.heap.size, 0, none⟩ : Addr).add k = ⟨w.heap.size, k, none⟩ := by unfold Addr.add; split <;> simp_all
  rw [hadd, cell_of_row _ _ _ _ _ _ (heap_alloc_new w _)]
  simp [List.getElem?_eq_getElem hk]
theorem positions2 (a b : Int) (w : World) :
    Calls Try.prog 34 #[.slice (some ⟨w.heap.size, 0, none⟩) 2 2] (w.alloc (.cells #[.int .i64 a, .int .i64 b] 3)) fun e w' => e = .returned (.bool (allPos [a, b])) ∧ w.alloc (.cells #[.int .i64 a, .int .i64 b] 3) = w' :=
  positions_any (w.heap.size + 1) _ 2 [a, b] (by simp [maxLen]) _ (NumsAt.lit w [a, b])
theorem positions3 (a b c : Int) (w : World) :
    Calls Try.prog 34 #[.slice (some ⟨w.heap.size, 0, none⟩) 3 3] (w.alloc (.cells #[.int .i64 a, .int .i64 b, .int .i64 c] 3)) fun e w' => e = .returned (.bool (allPos [a, b, c])) ∧ w.alloc (.cells #[.int .i64 a, .int .i64 b, .int .i64 c] 3) = w' :=
  positions_any (w.heap.size + 1) _ 3 [a, b, c] (by simp [maxLen]) _ (NumsAt.lit w [a, b, c])
end Go.Proofs.Ytmhneigglmingaa
