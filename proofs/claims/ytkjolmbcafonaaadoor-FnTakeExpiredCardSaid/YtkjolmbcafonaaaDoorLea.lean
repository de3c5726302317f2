/- Walks: LeasesValid of the implementation and of the reference. -/
import Derived.Test.YtkjolmbcafonaaaDoorTimes
import Derived.Test.YtkjolmbcafonaaaDoorTri
import Derived.BigQuiet
namespace Go.Proofs.YtkjolmbcafonaaaDoor
open Go.RowKit
set_option maxHeartbeats 4000000
set_option linter.unusedVariables false
theorem TrisAt.some_ {w : World} {B : Nat} {A : Option Addr} {xs : List Tri} (h : TrisAt w B A xs) (h0 : 0 < xs.length) : ∃ b off, A = some ⟨b, off, none⟩ := by
  obtain ⟨b, off, x, y, z, e, _⟩ := h 0 h0
  exact ⟨b, off, e⟩
theorem TrisAt.at_ {w : World} {B b off k : Nat} {xs : List Tri} {x : Tri} (h : TrisAt w B (some ⟨b, off, none⟩) xs) (hx : xs[k]? = some x) : w.cell? ⟨b, off + k * 3, none⟩ = some (.int .i64 x.1) ∧ w.cell? ⟨b, off + k * 3 + 1, none⟩ = some (.int .i64 x.2.1) ∧ w.cell? ⟨b, off + k * 3 + 2, none⟩ = some (.int .i64 x.2.2) := by
  have hk := (List.getElem?_eq_some_iff.1 hx).1
  obtain ⟨b', off', y1, y2, y3, e, _, hy, c1, c2, c3⟩ := h k hk
  injection e with e
  injection e with e1 e2
  subst e1 e2
  rw [hx] at hy
  injection hy with hy
  subst hy
  exact ⟨c1, c2, c3⟩
theorem cells3 {w : World} {n : Nat} {a b c : Value} {t : TypeId} (h : w.heap[n]? = some (.cells #[a, b, c] t (0, 0))) : w.cell? ⟨n, 0, none⟩ = some a ∧ w.cell? ⟨n, 1, none⟩ = some b ∧ w.cell? ⟨n, 2, none⟩ = some c := by
  refine ⟨?_, ?_, ?_⟩ <;> rw [cell_of_row w n _ _ t (0, 0) h] <;> rfl
theorem free3 {w : World} {n : Nat} {a b c : Value} {t : TypeId} (h : w.heap[n]? = some (.cells #[a, b, c] t (0, 0))) (o : Nat) : w.frozen? ⟨n, o, none⟩ = false := by
  unfold World.frozen?; simp [h]
theorem alloc_top (w : World) (x : Obj) : (w.alloc x).heap[w.heap.size]? = some x := by
  simp only [World.alloc, Array.getElem?_push_size]
theorem point_val {n : Int} {b : Bool} (h : pos n = b) (w : World) : Calls Tryd.prog 21 #[.int .i64 n] w fun e w' => e = .returned (.bool b) ∧ w' = w := by subst h; exact point_left n w
theorem stime_val {n : Int} {b : Bool} (h : timeOk n = b) (w : World) : Calls Tryd.prog 22 #[.int .i64 n] w fun e w' => e = .returned (.bool b) ∧ w' = w := by
  subst h; exact (stime_any n w).mono fun _ _ ⟨h, k⟩ => ⟨h, k.symm⟩
theorem lv_spec (B : Nat) (A : Option Addr) (c : Nat) (xs : List Tri) (hl : xs.length ≤ c) (hc : c ≤ maxLen) (w : World) (hB : B ≤ w.heap.size) (h : TrisAt w B A xs) :
    Calls Tryd.prog 20 #[.slice A xs.length c] w fun e w' => e = .returned (.bool (lval xs)) ∧ Below w.heap.size w w' := by
  unfold maxLen at hc
  have HV := Lib.hid (show lval xs = ((decide (1 ≤ (xs.length : Int)) && decide ((xs.length : Int) ≤ 12)) && lvTo xs xs.length) from by unfold lval; congr 1; rw [Bool.eq_iff_iff]; simp; omega)
  go_enter Tryd.func20, Tryd.ntmps20
  go_wp2_with fail
  go_loopw [3] (fun i wr => ∃ k : Nat, k ≤ xs.length ∧ i = .int .i64 k ∧ lvTo xs k = true ∧ ∃ n, wr = w.drewN n) (fun i _ => xs.length - (intOf i).toNat)
  case atStart => exact ⟨0, Nat.zero_le _, rfl, rfl, 0, rfl⟩
  case round =>
    obtain ⟨k, hk, rfl, hall, hw⟩ := hrel
    have Hall := Lib.hid hall
    have HW := Lib.hid hw
    replace h : TrisAt wr B A xs := by obtain ⟨n, rfl⟩ := hw; exact h.drewN n
    clear hall hw
    by_cases hlt : k < xs.length
    · obtain ⟨b, off, rfl⟩ := h.some_ (by omega)
      obtain ⟨x, hx⟩ : ∃ x, xs[k]? = some x := ⟨_, List.getElem?_eq_getElem hlt⟩
      obtain ⟨x1, x2, x3⟩ := x
      obtain ⟨c1, c2, c3⟩ := h.at_ hx
      simp only at c1 c2 c3
      have HS := Lib.hid (lvTo_succ xs k)
      have HF := Lib.hid (lv_false xs k hlt)
      have fin : ∀ (e : Bool) (wr' : World), lvAt xs k = false → (∃ n, wr' = wr.drewN n) → (Ending.returned (.bool false) = Ending.returned (.bool (lval xs)) ∧ Below w.heap.size w wr') := fun _ wr' hf hw' => by
        refine ⟨ret_bool (by rw [HV.out, HF.out hf, Bool.and_false]), ?_⟩
        obtain ⟨n, rfl⟩ := hw'
        exact below_draw (drewN_more HW.out)
      rcases k with _ | j
      · have HA := Lib.hid (lvAt_zero hx)
        rw [Nat.zero_mul, Nat.add_zero] at c1 c2 c3
        clear h hx
        cases p1 : pos x1
        · rw [p1] at HA
          go_wp2_with fail
          go_quiet ((go_at_call 21; with_reducible exact Calls.quiet_of_same (point_val p1 _)))
          go_wp2
          go_ret
          exact fin true _ (by rw [HA.out]; rfl) ⟨_, rfl⟩
        cases p2 : pos x2
        · rw [p1, p2] at HA
          go_wp2_with fail
          go_quiet (first | (go_at_call 21; with_reducible exact Calls.quiet_of_same (point_val p1 _)) | (go_at_call 21; with_reducible exact Calls.quiet_of_same (point_val p2 _)))
          go_wp2
          go_ret
          exact fin true _ (by rw [HA.out]; rfl) ⟨_, rfl⟩
        cases p3 : timeOk x3
        · rw [p1, p2, p3] at HA
          go_wp2_with fail
          go_quiet (first | (go_at_call 21; with_reducible exact Calls.quiet_of_same (point_val p1 _)) | (go_at_call 21; with_reducible exact Calls.quiet_of_same (point_val p2 _)) | (go_at_call 22; with_reducible exact Calls.quiet_of_same (stime_val p3 _)))
          go_wp2
          go_ret
          exact fin true _ (by rw [HA.out]; rfl) ⟨_, rfl⟩
        · rw [p1, p2, p3] at HA
          clear fin
          go_wp2_with fail
          go_quiet (first | (go_at_call 21; with_reducible exact Calls.quiet_of_same (point_val p1 _)) | (go_at_call 21; with_reducible exact Calls.quiet_of_same (point_val p2 _)) | (go_at_call 22; with_reducible exact Calls.quiet_of_same (stime_val p3 _)))
          go_wp2
          go_roundw
          case rel => exact ⟨1, by omega, by go_num, by rw [HS.out, Hall.out, HA.out]; rfl, drewN_more HW.out⟩
          case measure => simp [intOf]; omega
      · obtain ⟨y, hy⟩ : ∃ y, xs[j]? = some y := ⟨_, List.getElem?_eq_getElem (by omega)⟩
        obtain ⟨d1, -, -⟩ := h.at_ hy
        have HA := Lib.hid (lvAt_succ hy hx)
        generalize y.1 = y1 at d1 HA
        clear h hx hy
        cases p1 : pos x1
        · rw [p1] at HA
          go_wp2_with fail
          go_quiet ((go_at_call 21; with_reducible exact Calls.quiet_of_same (point_val p1 _)))
          go_wp2
          go_ret
          exact fin true _ (by rw [HA.out]; rfl) ⟨_, rfl⟩
        cases p2 : pos x2
        · rw [p1, p2] at HA
          go_wp2_with fail
          go_quiet (first | (go_at_call 21; with_reducible exact Calls.quiet_of_same (point_val p1 _)) | (go_at_call 21; with_reducible exact Calls.quiet_of_same (point_val p2 _)))
          go_wp2
          go_ret
          exact fin true _ (by rw [HA.out]; rfl) ⟨_, rfl⟩
        cases p3 : timeOk x3
        · rw [p1, p2, p3] at HA
          go_wp2_with fail
          go_quiet (first | (go_at_call 21; with_reducible exact Calls.quiet_of_same (point_val p1 _)) | (go_at_call 21; with_reducible exact Calls.quiet_of_same (point_val p2 _)) | (go_at_call 22; with_reducible exact Calls.quiet_of_same (stime_val p3 _)))
          go_wp2
          go_ret
          exact fin true _ (by rw [HA.out]; rfl) ⟨_, rfl⟩
        by_cases p4 : y1 < x1
        · rw [p1, p2, p3, decide_eq_true p4] at HA
          clear fin
          go_wp2_with fail
          go_quiet (first | (go_at_call 21; with_reducible exact Calls.quiet_of_same (point_val p1 _)) | (go_at_call 21; with_reducible exact Calls.quiet_of_same (point_val p2 _)) | (go_at_call 22; with_reducible exact Calls.quiet_of_same (stime_val p3 _)))
          go_wp2
          go_roundw
          case rel => exact ⟨j + 2, by omega, by go_num, by rw [HS.out, Hall.out, HA.out]; rfl, drewN_more HW.out⟩
          case measure => simp [intOf]; omega
        · rw [p1, p2, p3, decide_eq_false p4] at HA
          have p4' : x1 ≤ y1 := by omega
          go_wp2_with fail
          go_quiet (first | (go_at_call 21; with_reducible exact Calls.quiet_of_same (point_val p1 _)) | (go_at_call 21; with_reducible exact Calls.quiet_of_same (point_val p2 _)) | (go_at_call 22; with_reducible exact Calls.quiet_of_same (stime_val p3 _)))
          go_wp2
          go_ret
          exact fin true _ (by rw [HA.out]; rfl) ⟨_, rfl⟩
    · clear h
      go_wp2_with fail
      refine (in_any _ _ _ _).mono ?_; rintro e w' ⟨rfl, rfl⟩
      go_wp2
      go_ret
      have : k = xs.length := by omega
      subst this
      exact ⟨ret_bool (by rw [HV.out, Hall.out, Bool.and_true]), below_draw HW.out⟩
end Go.Proofs.YtkjolmbcafonaaaDoor
