/- Slices of nodes: eqNode, eqNodeS at equal lists. -/
import Derived.Test.YtmhneigglmingaaNodeM
namespace Go.Proofs.Ytmhneigglmingaa
open Go.RowKit Go.ChangeShapes Go.WideShapes Go.Deep
set_option maxHeartbeats 1000000
set_option linter.unusedVariables false
theorem eqNode_same (x y : Int) (A A' : Option Addr) (c c' : Nat) (xs : List Int) (hl : xs.length ≤ 1048576) (w : World) (h : NumsAt .i64 w w.heap.size A xs) (h' : NumsAt .i64 w w.heap.size A' xs) :
    Calls Try.prog 35 #[.agg #[.int .i64 x, .int .i64 y, .slice A xs.length c], .agg #[.int .i64 x, .int .i64 y, .slice A' xs.length c']] w fun e w' => e = .returned (.bool true) ∧ Below w.heap.size w w' := by
  have hb0 : Below w.heap.size w ((w.alloc (.cells #[.int .i64 x, .int .i64 y, .slice A xs.length c] 41 (0, 0))).alloc (.cells #[.int .i64 x, .int .i64 y, .slice A' xs.length c'] 41 (0, 0))) :=
    ((Below.refl _ _).alloc (Nat.le_refl _) _).alloc (by simp) _
  have HC := Lib.hid (eqIntS_any w.heap.size A A' c c' xs xs (by unfold maxLen; omega) (by unfold maxLen; omega) _ (h.below hb0) (h'.below hb0))
  rw [decide_eq_true (rfl : xs = xs)] at HC
  clear h h'
  go_enter Try.func35, Try.ntmps35
  go_wp2_with fail
  refine HC.out.mono ?_; rintro e w2 ⟨rfl, hb2⟩
  have HB := Lib.hid (below_next hb0 hb2)
  go_wp2
  go_ret
  exact ⟨rfl, HB.out⟩
theorem eqNodeS_same (A A' : Option Addr) (c c' : Nat) (xs : List Nod) (hl : xs.length ≤ 1048576) (hfit : fits xs) (w : World) (h : NodAt w w.heap.size A xs) (h' : NodAt w w.heap.size A' xs) :
    Calls Try.prog 13 #[.slice A xs.length c, .slice A' xs.length c'] w fun e w' => e = .returned (.bool true) ∧ Below w.heap.size w w' := by
  go_enter Try.func13, Try.ntmps13
  go_wp2
  go_loopw [5] (fun i wr => ∃ k : Nat, k ≤ xs.length ∧ i = .int .i64 k ∧ Below w.heap.size w wr) (fun i _ => xs.length - (intOf i).toNat)
  case atStart => exact ⟨0, Nat.zero_le _, rfl, Below.refl _ _⟩
  case round =>
    obtain ⟨k, hk, rfl, hb⟩ := hrel
    by_cases hlt : k < xs.length
    · obtain ⟨b, o, rfl⟩ := h.some_ (by omega)
      obtain ⟨b', o', rfl⟩ := h'.some_ (by omega)
      obtain ⟨x, hx⟩ : ∃ x, xs[k]? = some x := ⟨_, List.getElem?_eq_getElem hlt⟩
      have hfx := hfit x (List.mem_of_getElem? hx)
      obtain ⟨A1, c1, e1, e2, e3, _, _, h3⟩ := (h.below hb).at_ hx
      obtain ⟨A2, c2, d1, d2, d3, _, _, h4⟩ := (h'.below hb).at_ hx
      obtain ⟨x1, x2, x3⟩ := x
      simp only at e1 e2 e3 d1 d2 d3 h3 h4 hfx
      have HQ := fun (W : World) (hW : Below wr.heap.size wr W) => Lib.hid (eqNode_same x1 x2 A1 A2 c1 c2 x3 hfx W ((h3.more hb.size).below (hW.mono (Nat.le_refl _)) |>.more hW.size) ((h4.more hb.size).below hW |>.more hW.size))
      clear h h' hx h3 h4
      have HB := Lib.hid hb
      clear hb
      go_wp2
      go_region_with (go_at_call 35; refine ((HQ _ (by first | exact Below.refl _ _ | exact (Below.refl _ _).drew)).out).mono ?_; rintro e w2 ⟨rfl, hb2⟩)
      all_goals
        go_wp2
        go_roundw
        case rel => exact ⟨k + 1, by omega, by go_num, below_next HB.out (below_undrew hb2)⟩
        case measure => simp [intOf]; omega
    · clear h h'
      go_wp2
      go_ret
      exact ⟨rfl, hb⟩
end Go.Proofs.Ytmhneigglmingaa
