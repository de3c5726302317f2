/- Walks: the reader of codes, going on: l6Open, l91Point, and the draws of positions. -/
import Derived.Test.YtkjolmbcafonaaaDoorDraw
import Derived.OwnWalk
namespace Go.Proofs.YtkjolmbcafonaaaDoor
open Go.RowKit
set_option maxHeartbeats 400000
set_option linter.unusedVariables false
theorem Rd.more {w : World} {R M M' : Nat} (h : Rd w R M) (hM : M ≤ M') : Rd w R M' := by
  obtain ⟨A, c, bs, p, hh, hl, hp, hb, hx⟩ := h
  exact ⟨A, c, bs, p, hh, hl, by omega, hb, hx⟩
theorem Rd.lt {w : World} {R M : Nat} (h : Rd w R M) : R < w.heap.size := by
  obtain ⟨A, c, bs, p, hh, hl, hp, hb, hx⟩ := h
  exact lt_of_block hh
/-- The reader is there as it was after other things have turned. -/
theorem Rd.keep {w w' : World} {R M : Nat} (h : Rd w R M) (hb : ∀ k, k ≤ R → w'.heap[k]? = w.heap[k]?) : Rd w' R M := by
  obtain ⟨A, c, bs, p, hh, hl, hp, hn, hx⟩ := h
  exact ⟨A, c, bs, p, (hb R (Nat.le_refl _)).trans hh, hl, hp, hn.keep fun q hq => World.cell?_of_block (hb q.block (by omega)), hx⟩
theorem Rd.below {w w' : World} {R M B : Nat} (h : Rd w R M) (hb : Below B w w') (hR : R < B) : Rd w' R M := h.keep fun k hk => hb.block k (by omega)
theorem Rd.drewN {w : World} {R M : Nat} (h : Rd w R M) (n : Nat) : Rd (w.drewN n) R M := h.keep fun _ _ => rfl
/-- Of what was there only the reader's block may have turned. -/
theorem below_reader {w w1 w' : World} {R : Nat} (h : Below w.heap.size w w1) (hR : w.heap.size ≤ R) (hg : w1.grownBy w' (some R)) : Below w.heap.size w w' :=
  h.grown hg h.size (fun k e => by injection e with e; omega)
theorem grown_next {w w1 w' : World} {r : Option Nat} (h : w.grownBy w1 r) (k : w1.grownBy w' r) : w.grownBy w' r := World.grownBy.trans h k

theorem below_of_grown {w w1 w' : World} {R : Nat} (h : w.grownBy w1 (some R)) (hb : Below w1.heap.size w1 w') : w.grownBy w' (some R) :=
  ⟨hb.os.trans h.os, hb.tape.trans h.tape, hb.output.trans h.output, Nat.le_trans h.size hb.size, fun k hk hne => (hb.block k (Nat.lt_of_lt_of_le hk h.size)).trans (h.block k hk hne)⟩

def Opened (w : World) (e : Ending) (w' : World) : Prop := e = .returned (.pointer (some ⟨w.heap.size, 0, none⟩)) ∧ Rd w' w.heap.size 0 ∧ Below w.heap.size w w'
theorem open_any (A : Option Addr) (c : Nat) (xs : List Int) (w : World) (h : Arg .u8 w A c xs) : Calls Tryd.prog 13 #[.slice A xs.length c] w (Opened w) := by
  obtain ⟨hl, hc, hn, hx⟩ := h
  unfold maxLen at hc
  have hx' : ∀ x ∈ xs, 0 ≤ x ∧ x ≤ 255 := fun x hm => wf_u8 (hx x hm)
  clear hx
  by_cases hbig : 2000 < xs.length
  · have HR := Lib.hid (show Rd (w.alloc (.cells #[.slice A 2000 c, .int .i64 0] 56)) w.heap.size 0 from
      ⟨A, c, xs.take 2000, 0, by rw [heap_alloc_new, List.length_take, Nat.min_eq_left (by omega)]; rfl, by simp; omega, Nat.le_refl _,
        (fun k hk => by
          simp only [List.length_take] at hk
          obtain ⟨ad, x, e, hb, hx, hc⟩ := hn k (by omega)
          exact ⟨ad, x, e, hb, by rw [List.getElem?_take, if_pos (by omega)]; exact hx, by rw [World.cell?_alloc_lt _ _ _ (by rw [block_add]; exact hb)]; exact hc⟩),
        fun x hm => hx' x (List.mem_of_mem_take hm)⟩)
    clear hn hx'
    go_enter Tryd.func13, Tryd.ntmps13
    go_wp2
    go_ret
    exact ⟨rfl, HR.out, (Below.refl _ _).alloc (Nat.le_refl _) _⟩
  · have HR := Lib.hid (show Rd (w.alloc (.cells #[.slice A xs.length c, .int .i64 0] 56)) w.heap.size 0 from
      ⟨A, c, xs, 0, by rw [heap_alloc_new]; rfl, by omega, Nat.le_refl _, hn.keep fun q hq => World.cell?_alloc_lt _ _ _ hq, hx'⟩)
    clear hn hx'
    go_enter Tryd.func13, Tryd.ntmps13
    go_wp2
    go_ret
    exact ⟨rfl, HR.out, (Below.refl _ _).alloc (Nat.le_refl _) _⟩

def Pointed (w : World) (R M : Nat) (e : Ending) (w' : World) : Prop := ∃ x : Int, -1 ≤ x ∧ x ≤ 64 ∧ e = .returned (.int .i64 x) ∧ Rd w' R (M + 2) ∧ w.grownBy w' (some R)
theorem rpoint_any (R M : Nat) (hM : M ≤ 90000) (w : World) (h : Rd w R M) : Calls Tryd.prog 15 #[.pointer (some ⟨R, 0, none⟩)] w (Pointed w R M) := by
  go_enter Tryd.func15, Tryd.ntmps15
  go_wp2_with fail
  refine (pick_any R M 24 (by omega) (by omega) (by omega) w h).mono ?_; rintro e w1 ⟨x, x0, x1, rfl, hr1, hg1⟩
  by_cases hx : x = 0
  · subst hx
    go_wp2_with fail
    refine (pick_any R (M + 1) 2 (by omega) (by omega) (by omega) w1 hr1).mono ?_; rintro e w2 ⟨y, y0, y1, rfl, hr2, hg2⟩
    go_wp2
    go_ret
    exact ⟨y * 65 - 1, by omega, by omega, rfl, hr2, grown_next hg1 hg2⟩
  · have hx' : (x == 0) = false := by rw [beq_eq_false_iff_ne]; exact hx
    go_wp2_with fail
    refine (pick_any R (M + 1) 64 (by omega) (by omega) (by omega) w1 hr1).mono ?_; rintro e w2 ⟨y, y0, y1, rfl, hr2, hg2⟩
    go_wp2
    go_ret
    exact ⟨y, by omega, by omega, rfl, hr2, grown_next hg1 hg2⟩

end Go.Proofs.YtkjolmbcafonaaaDoor
