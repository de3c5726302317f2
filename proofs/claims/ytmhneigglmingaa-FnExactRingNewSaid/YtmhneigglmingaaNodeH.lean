/- Walks: heldNodeS: the numbers that markNodeS has written are read again. -/
import Derived.Test.YtmhneigglmingaaNodeK
namespace Go.Proofs.Ytmhneigglmingaa
open Go.RowKit
set_option maxHeartbeats 1000000
set_option linter.unusedVariables false
theorem NodAt.more {w : World} {B B' : Nat} {A : Option Addr} {xs : List Nod} (h : NodAt w B A xs) (hB : B ≤ B') : NodAt w B' A xs := by
  intro k x hx
  obtain ⟨b, off, A', c', e, hb, c1, c2, c3, h1, h2, h3⟩ := h k x hx
  exact ⟨b, off, A', c', e, by omega, c1, c2, c3, h1, h2, h3.more hB⟩
theorem mkN_at {xs : List Nod} (s : Int) {k : Nat} {x : Nod} (hx : xs[k]? = some x) : (mkN s xs)[k]? = some (s + sumN (xs.take k), s + sumN (xs.take k) + 1, upFrom (s + sumN (xs.take k) + 2) x.2.2.length) := by
  have hk := (List.getElem?_eq_some_iff.1 hx).1
  have h := markN_set s hx
  have h1 : (markN xs s (k + 1))[k]? = some (s + sumN (xs.take k), s + sumN (xs.take k) + 1, upFrom (s + sumN (xs.take k) + 2) x.2.2.length) := by
    rw [← h, List.getElem?_set_self (by rw [markN_len xs s k (by omega)]; exact hk)]
  have h2 : mkN s xs = mkN s (xs.take (k + 1)) ++ mkN (s + sumN (xs.take (k + 1))) (xs.drop (k + 1)) := by
    have : ∀ (a b : List Nod) (s : Int), mkN s (a ++ b) = mkN s a ++ mkN (s + sumN a) b := by
      intro a
      induction a with
      | nil => intro b s; simp [mkN, sumN]
      | cons y l ih => intro b s; rw [List.cons_append]; simp only [mkN]; rw [ih, sum_cons, List.cons_append, show s + 2 + (y.2.2.length : Int) + sumN l = s + (2 + (y.2.2.length : Int) + sumN l) from by omega]
    rw [← this, List.take_append_drop]
  have hl : k < (mkN s (xs.take (k + 1))).length := by rw [mk_len]; simp; omega
  rw [h2, List.getElem?_append_left hl]
  unfold markN at h1
  rwa [List.getElem?_append_left hl] at h1
theorem heldNode_any (B : Nat) (A : Option Addr) (c : Nat) (xs : List Nod) (s : Int) (hs : 0 ≤ s) (hs' : s ≤ 1048576) (hl : xs.length ≤ 1048576) (hfit : fits xs) (w : World) (h : NodAt w B A (mkN s xs)) :
    Calls Try.prog 20 #[.slice A xs.length c, .int .i64 s] w fun e w' => e = .returned (.int .i64 (s + sumN xs)) ∧ ∃ m, w' = w.drewN m := by
  go_enter Try.func20, Try.ntmps20
  go_wp2
  go_loopw [1, 5] (fun k i wr => ∃ j : Nat, j ≤ xs.length ∧ i = .int .i64 j ∧ k = .int .i64 (s + sumN (xs.take j)) ∧ ∃ m, wr = w.drewN m) (fun _ i _ => xs.length - (intOf i).toNat)
  case atStart => exact ⟨0, Nat.zero_le _, rfl, by simp [sumN], 0, rfl⟩
  case round =>
    obtain ⟨j, hj, rfl, rfl, hw⟩ := hrel
    have HW := Lib.hid hw
    replace h : NodAt wr B A (mkN s xs) := by obtain ⟨n, rfl⟩ := hw; exact h.drewN n
    clear hw
    by_cases hlt : j < xs.length
    · obtain ⟨x, hx⟩ : ∃ x, xs[j]? = some x := ⟨_, List.getElem?_eq_getElem hlt⟩
      have hfx := hfit x (List.mem_of_getElem? hx)
      have hmx := mkN_at s hx
      have hs1 : sumN (xs.take (j + 1)) = sumN (xs.take j) + 2 + (x.2.2.length : Int) := by rw [take_snoc hx, sum_snoc]
      have hq0 := sum_nonneg (xs.take j)
      have hq1 := sum_le (xs.take j) (fits_take hfit j)
      have hq2 : ((xs.take j).length : Int) ≤ 1048576 := by simp; omega
      obtain ⟨q, hq⟩ : ∃ q, q = s + sumN (xs.take j) := ⟨_, rfl⟩
      rw [← hq] at hmx ⊢
      have hq3 : 0 ≤ q := by omega
      have hq4 : q ≤ 1125899906842000 := by omega
      have HQ := Lib.hid (show s + sumN (xs.take (j + 1)) = q + 1 + 1 + (x.2.2.length : Int) from by omega)
      obtain ⟨b, off, rfl⟩ := h.some_ (by rw [mk_len]; omega)
      obtain ⟨A', c', c1, c2, c3, h1, h2, h3⟩ := h.at_ hmx
      simp only [upFrom_len] at c1 c2 c3 h1
      rw [show q + 2 = q + 1 + 1 from by omega] at h3
      obtain ⟨n, hn⟩ : ∃ n, n = x.2.2.length := ⟨_, rfl⟩
      rw [← hn] at hfx HQ c3 h1 h3
      have HC := Lib.hid (held_any B A' c' (q + 1 + 1) n (by omega) (by omega) hfx wr h3)
      have hnn : ¬ (q + 1 + 1 + (n : Int) < 0) := by omega
      clear hs1 hq0 hq1 hq2 hq h hmx hx h3 hn
      have hnl : (n : Int) ≤ 1048576 := by omega
      go_wp2_with fail
      refine (HC.out).mono ?_; rintro e w4 ⟨rfl, m4, rfl⟩
      go_wp2
      go_roundw
      case rel => exact ⟨j + 1, by omega, by go_num, by rw [HQ.out], drewN_more HW.out⟩
      case measure => simp [intOf]; omega
    · have : j = xs.length := by omega
      subst this
      clear h
      rw [List.take_length]
      go_wp2
      go_ret
      exact ⟨rfl, HW.out⟩
end Go.Proofs.Ytmhneigglmingaa
