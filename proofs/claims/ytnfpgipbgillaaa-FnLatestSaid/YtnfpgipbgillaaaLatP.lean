/- Plain laws of registers: the latest replica of a set is of the set and not older than others; sets of all; pairs of a valid register. -/
import Derived.Test.YtnfpgipbgillaaaLatR
namespace Go.Proofs.Ytnfpgipbgillaaa
open Go.RowKit
set_option linter.unusedVariables false
def below_ (a b : Tri) : Prop := repOlder a.1 a.2.1 b.1 b.2.1 = false
theorem older_irr (a : Tri) : repOlder a.1 a.2.1 a.1 a.2.1 = false := by simp [repOlder]
theorem older_asym {a b : Tri} (h : repOlder a.1 a.2.1 b.1 b.2.1 = true) : repOlder b.1 b.2.1 a.1 a.2.1 = false := by
  unfold repOlder at *; simp at *; omega
theorem older_up {a b c : Tri} (h : repOlder a.1 a.2.1 b.1 b.2.1 = true) (h2 : repOlder a.1 a.2.1 c.1 c.2.1 = false) : repOlder b.1 b.2.1 c.1 c.2.1 = false := by
  unfold repOlder at *; simp at *; omega
theorem lat_upto {xs : List Tri} {ss : List Int} (h0 : 0 < ss.length) : ∀ k, k ≤ ss.length → 1 ≤ k →
    (∃ j s, j < k ∧ ss[j]? = some s ∧ latTo xs ss k = pickT xs s) ∧ ∀ j s, j < k → ss[j]? = some s → repOlder (latTo xs ss k).1 (latTo xs ss k).2.1 (pickT xs s).1 (pickT xs s).2.1 = false
  | k + 1, hk, _ => by
    have hs : ss[k]? = some ss[k] := List.getElem?_eq_getElem (by omega)
    by_cases hk0 : k = 0
    · subst hk0
      rw [latTo_one hs]
      refine ⟨⟨0, _, by omega, hs, rfl⟩, fun j s hj hjs => ?_⟩
      have : j = 0 := by omega
      subst this
      rw [hs] at hjs
      injection hjs with hjs
      rw [hjs]; exact older_irr _
    · obtain ⟨⟨j0, s0, h1, h2, h3⟩, h4⟩ := lat_upto h0 k (by omega) (by omega)
      rw [latTo_succ hs]
      generalize latTo xs ss k = b at *
      unfold latStep
      by_cases ho : repOlder b.1 b.2.1 (pickT xs ss[k]).1 (pickT xs ss[k]).2.1 = true
      · rw [if_pos ho]
        refine ⟨⟨k, _, by omega, hs, rfl⟩, fun j s hj hjs => ?_⟩
        by_cases hjk : j = k
        · subst hjk
          rw [hs] at hjs
          injection hjs with hjs
          rw [hjs]; exact older_irr _
        · exact older_up ho (h4 j s (by omega) hjs)
      · rw [if_neg ho]
        refine ⟨⟨j0, s0, by omega, h2, h3⟩, fun j s hj hjs => ?_⟩
        by_cases hjk : j = k
        · subst hjk
          rw [hs] at hjs
          injection hjs with hjs
          rw [← hjs]; simpa using ho
        · exact h4 j s (by omega) hjs
theorem lat_mem {xs : List Tri} {ss : List Int} (h0 : 0 < ss.length) : ∃ (j : Nat) (s : Int), ss[j]? = some s ∧ latVal xs ss = pickT xs s := by
  obtain ⟨⟨j, s, h1, h2, h3⟩, _⟩ := lat_upto (xs := xs) h0 ss.length (Nat.le_refl _) h0
  exact ⟨j, s, h2, h3⟩
theorem lat_max {xs : List Tri} {ss : List Int} (h0 : 0 < ss.length) {j : Nat} {s : Int} (h : ss[j]? = some s) : repOlder (latVal xs ss).1 (latVal xs ss).2.1 (pickT xs s).1 (pickT xs s).2.1 = false :=
  (lat_upto (xs := xs) h0 ss.length (Nat.le_refl _) h0).2 j s (List.getElem?_eq_some_iff.1 h).1 h
/-- The set of the first k replicas. -/
def upto (k : Nat) : List Int := (List.range k).map (fun (j : Nat) => (j : Int))
theorem upto_len (k : Nat) : (upto k).length = k := by simp [upto]
theorem upto_at {k j : Nat} (h : j < k) : (upto k)[j]? = some (j : Int) := by simp [upto, h]
theorem upto_set {n k : Nat} (h : k ≤ n) : setOk n (upto k) = true := by
  unfold setOk setTo
  rw [List.all_eq_true]
  intro j hj
  rw [upto_len] at hj
  have hj : j < k := by simpa using hj
  unfold setAt
  rw [upto_at hj]
  simp only [Bool.and_eq_true]
  refine ⟨by simp [inS]; omega, ?_⟩
  rcases j with _ | i
  · rfl
  · simp only
    rw [upto_at (by omega : i < k)]
    simp; omega
theorem upto_most {n : Nat} (h : 1 ≤ n) : mostOk n (upto n) = true := by
  unfold mostOk
  rw [upto_set (Nat.le_refl _), upto_len]
  simp; omega
theorem upto_few {n k : Nat} (h : k ≤ n / 2) : mostOk n (upto k) = false := by
  unfold mostOk
  rw [upto_len]
  have : ¬ (n : Int) < 2 * (k : Int) := by omega
  simp [this]
theorem rl_yes {xs : List Tri} {ss : List Int} (h : rlOk xs ss = true) : regVal xs = true ∧ mostOk xs.length ss = true := by
  unfold rlOk at h; simpa using h
theorem rl_val {xs : List Tri} {ss : List Int} (h : rlOk xs ss = true) : rlVal xs ss = latVal xs ss := by unfold rlVal; rw [if_pos h]
theorem reg_len {xs : List Tri} (h : regVal xs = true) : 1 ≤ xs.length ∧ xs.length ≤ 5 := by unfold regVal at h; simp at h; exact h.1
theorem reg_at {xs : List Tri} (h : regVal xs = true) {i : Nat} (hi : i < xs.length) : rvAt xs i = true := by
  unfold regVal rvTo at h
  rw [Bool.and_eq_true, List.all_eq_true] at h
  exact h.2 i (by simpa using hi)
theorem reg_ok {xs : List Tri} (h : regVal xs = true) {i : Nat} {x : Tri} (hx : xs[i]? = some x) : repOk x.1 x.2.1 x.2.2 = true := by
  have := reg_at h (List.getElem?_eq_some_iff.1 hx).1
  rw [rvAt_some hx, Bool.and_eq_true] at this
  exact this.1
theorem reg_zero {x1 x2 x3 : Int} (h : repOk x1 x2 x3 = true) (h0 : x1 = 0) : x2 = 0 ∧ x3 = 0 := by
  unfold repOk at h; subst h0; simp at h; exact h
theorem reg_pair {xs : List Tri} (h : regVal xs = true) {i k : Nat} {x y : Tri} (hk : k < i) (hx : xs[i]? = some x) (hy : xs[k]? = some y) (h1 : y.1 = x.1) (h2 : y.2.1 = x.2.1) : y = x := by
  have := reg_at h (List.getElem?_eq_some_iff.1 hx).1
  rw [rvAt_some hx, Bool.and_eq_true, List.all_eq_true] at this
  have hb := this.2 y (List.mem_of_getElem? (i := k) (by rw [List.getElem?_take, if_pos hk]; exact hy))
  unfold badPair at hb
  simp [repOlder, h1, h2] at hb
  exact hb.symm
end Go.Proofs.Ytnfpgipbgillaaa
