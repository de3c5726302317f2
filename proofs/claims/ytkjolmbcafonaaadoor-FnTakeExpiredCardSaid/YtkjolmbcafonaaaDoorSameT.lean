/- Walks: the laws' sameLeases and holder. -/
import Derived.Test.YtkjolmbcafonaaaDoorAppT
import Derived.BigQuiet
import Derived.Test.YtkjolmbcafonaaaDoorLof
namespace Go.Proofs.YtkjolmbcafonaaaDoor
open Go.RowKit
set_option maxHeartbeats 1000000
set_option linter.unusedVariables false
theorem below_dn {B : Nat} {w w' : World} (h : Below B w w') (n : Nat) : Below B w (w'.drewN n) := ⟨h.os, h.tape, h.output, h.size, h.block⟩
theorem eqS_end {xs ys : List Tri} (hl : xs.length = ys.length) (h : ∀ i, i < xs.length → xs[i]? = ys[i]?) : xs = ys := by
  apply List.ext_getElem?
  intro i
  by_cases hi : i < xs.length
  · exact h i hi
  · rw [List.getElem?_eq_none (by omega), List.getElem?_eq_none (by omega)]
theorem sameT_any (B : Nat) (A A' : Option Addr) (c c' : Nat) (xs ys : List Tri) (hlx : xs.length ≤ maxLen) (hly : ys.length ≤ maxLen) (w : World) (h : TrisAt w B A xs) (h' : TrisAt w B A' ys) :
    Calls Tryd.prog 9 #[.slice A xs.length c, .slice A' ys.length c'] w fun e w' => e = .returned (.bool (decide (xs = ys))) ∧ ∃ m, w' = w.drewN m := by
  unfold maxLen at hlx hly
  by_cases hl : xs.length = ys.length
  · have hl' : ((xs.length : Int) != (ys.length : Int)) = false := by simp; omega
    have HL := Lib.hid hl
    clear hl
    go_enter Tryd.func9, Tryd.ntmps9
    go_wp2
    go_loopw [5] (fun i wr => ∃ k : Nat, k ≤ xs.length ∧ i = .int .i64 k ∧ (∀ j, j < k → xs[j]? = ys[j]?) ∧ ∃ m, wr = w.drewN m) (fun i _ => xs.length - (intOf i).toNat)
    case atStart => exact ⟨0, Nat.zero_le _, rfl, fun _ hj => absurd hj (Nat.not_lt_zero _), 0, rfl⟩
    case round =>
      obtain ⟨k, hk, rfl, hall, hw⟩ := hrel
      have Hall := Lib.hid hall
      have HW := Lib.hid hw
      replace h : TrisAt wr B A xs := by obtain ⟨n, rfl⟩ := hw; exact h.drewN n
      replace h' : TrisAt wr B A' ys := by obtain ⟨n, rfl⟩ := hw; exact h'.drewN n
      clear hall hw
      by_cases hlt : k < xs.length
      · have hlt' : k < ys.length := by have := HL.out; omega
        obtain ⟨b, o, x, y, z, rfl, -, hx, c1, c2, c3⟩ := h k hlt
        obtain ⟨b', o', x', y', z', rfl, -, hy, d1, d2, d3⟩ := h' k hlt'
        have HX := Lib.hid hx
        have HY := Lib.hid hy
        clear h h' hx hy
        by_cases hxy : (x, y, z) = (x', y', z')
        · have HS := Lib.hid (show xs[k]? = ys[k]? from by rw [HX.out, HY.out, hxy])
          injection hxy with h1 h2
          injection h2 with h2 h3
          subst h1 h2 h3
          go_wp2_with fail
          go_quiet (fail)
          go_wp2
          go_roundw
          case rel =>
            refine ⟨k + 1, by omega, by go_num, fun j hj => ?_, drewN_more HW.out⟩
            by_cases e : j = k
            · rw [e]; exact HS.out
            · exact Hall.out j (by omega)
          case measure => simp [intOf]; omega
        · have HN := Lib.hid (show decide (xs = ys) = false from by
            rw [decide_eq_false_iff_not]; intro e; rw [e, HY.out] at HX; injection HX.out with e'; exact hxy e'.symm)
          by_cases e1 : x = x'
          · subst e1
            by_cases e2 : y = y'
            · subst e2
              have e3 : (z == z') = false := by rw [beq_eq_false_iff_ne]; intro e; subst e; exact hxy rfl
              clear hxy
              go_wp2_with fail
              go_quiet (fail)
              go_wp2
              go_ret
              exact ⟨ret_bool HN.out.symm, drewN_more HW.out⟩
            · have e2b : (y == y') = false := by rw [beq_eq_false_iff_ne]; exact e2
              clear hxy e2
              go_wp2_with fail
              go_quiet (fail)
              go_wp2
              go_ret
              exact ⟨ret_bool HN.out.symm, drewN_more HW.out⟩
          · have e1b : (x == x') = false := by rw [beq_eq_false_iff_ne]; exact e1
            clear hxy e1
            go_wp2_with fail
            go_quiet (fail)
            go_wp2
            go_ret
            exact ⟨ret_bool HN.out.symm, drewN_more HW.out⟩
      · clear h h'
        have HE := Lib.hid (show decide (xs = ys) = true from by
          rw [decide_eq_true_iff]; refine eqS_end HL.out ?_; have : k = xs.length := by omega
          rw [← this]; exact Hall.out)
        go_wp2
        go_ret
        exact ⟨ret_bool HE.out.symm, HW.out⟩
  · have hl' : ((xs.length : Int) != (ys.length : Int)) = true := by simp; omega
    have HN := Lib.hid (show decide (xs = ys) = false from by rw [decide_eq_false_iff_not]; intro e; rw [e] at hl; exact hl rfl)
    clear hl
    go_enter Tryd.func9, Tryd.ntmps9
    go_wp2
    go_ret
    exact ⟨ret_bool HN.out.symm, 0, rfl⟩
theorem sameT_self {A A' : Option Addr} {c c' : Nat} {xs : List Tri} {b1 b2 : Nat} (hl : xs.length ≤ maxLen) (w : World) (h : OwnT w b1 A c xs) (h' : OwnT w b2 A' c' xs) :
    Calls Tryd.prog 9 #[.slice A xs.length c, .slice A' xs.length c'] w fun e w' => e = .returned (.bool true) ∧ ∃ m, w' = w.drewN m :=
  (sameT_any w.heap.size A A' c c' xs xs hl hl w h.tris h'.tris).mono fun _ _ ⟨e, k⟩ => ⟨by rw [e, decide_eq_true rfl], k⟩
def holdVal (xs : List Tri) (key : Int) : Int × Int := (loVal xs key).2
theorem holder_any (B : Nat) (A : Option Addr) (c : Nat) (xs : List Tri) (key : Int) (hl : xs.length ≤ c) (hc : c ≤ maxLen) (w : World) (hB : B ≤ w.heap.size) (h : TrisAt w B A xs) :
    Calls Tryd.prog 10 #[.slice A xs.length c, .int .i64 key] w fun e w' => e = .returned (.tuple #[.int .i64 (loVal xs key).2.1, .int .i64 (loVal xs key).2.2]) ∧ Below w.heap.size w w' := by
  have HC := Lib.hid (lo_impl B A c xs key hl hc w hB h)
  unfold LoRet at HC
  generalize loVal xs key = v at HC ⊢
  generalize loOk xs key = ok at HC
  clear h
  go_enter Tryd.func10, Tryd.ntmps10
  go_wp2_with fail
  refine HC.out.mono ?_; rintro e w1 ⟨rfl, hb1⟩
  have hb2 : Below w.heap.size w (w1.alloc (.cells #[.int .i64 v.1, .int .i64 v.2.1, .int .i64 v.2.2] 34 (0, 0))) := hb1.alloc hb1.size _
  go_wp2_with fail
  go_quiet (fail)
  go_wp2
  go_ret2
  exact ⟨rfl, ⟨hb2.os, hb2.tape, hb2.output, hb2.size, hb2.block⟩⟩
end Go.Proofs.YtkjolmbcafonaaaDoor
