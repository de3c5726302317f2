/- Plain laws of 'between' and 'holds'. No program in sight. -/
import Derived.Test.YtkepfmekghbkeaaPlain
namespace Go.Proofs.Ytkepfmekghbkeaa
set_option linter.unusedVariables false
theorem btw_all {a x b : Int} (ha : pos a = true) (hx : pos x = true) (hb : pos b = true) : btw a x b = rbtw a x b := by unfold btw; simp [ha, hx, hb]
theorem rbtw_iff (a x b : Int) : rbtw a x b = true ↔ (a < b ∧ a < x ∧ x < b) ∨ (b ≤ a ∧ (a < x ∨ x < b)) := by
  unfold rbtw
  split <;> simp <;> omega
theorem btw_iff {a x b : Int} (ha : pos a = true) (hx : pos x = true) (hb : pos b = true) : btw a x b = true ↔ (a < b ∧ a < x ∧ x < b) ∨ (b ≤ a ∧ (a < x ∨ x < b)) := by
  rw [btw_all ha hx hb, rbtw_iff]
theorem btw_turn {a x b d : Int} (ha : pos a = true) (hx : pos x = true) (hb : pos b = true) : btw ((a + d) % 64) ((x + d) % 64) ((b + d) % 64) = btw a x b := by
  have h1 := pos_iff.1 ha
  have h2 := pos_iff.1 hx
  have h3 := pos_iff.1 hb
  rw [Bool.eq_iff_iff, btw_iff ha hx hb, btw_iff (pos_iff.2 (by omega)) (pos_iff.2 (by omega)) (pos_iff.2 (by omega))]
  omega
theorem btw_other {a x b : Int} (ha : pos a = true) (hx : pos x = true) (hb : pos b = true) (h1 : a ≠ x) (h2 : x ≠ b) (h3 : a ≠ b) : btw b x a = !(btw a x b) := by
  have e : btw b x a = true ↔ ¬ btw a x b = true := by
    rw [btw_iff ha hx hb, btw_iff hb hx ha]; omega
  cases h : btw a x b <;> cases h' : btw b x a <;> simp_all
theorem btw_round {a x b : Int} (ha : pos a = true) (hx : pos x = true) (hb : pos b = true) (h1 : a ≠ x) (h2 : x ≠ b) (h3 : a ≠ b) : btw x b a = btw a x b := by
  rw [Bool.eq_iff_iff, btw_iff ha hx hb, btw_iff hx hb ha]; omega
theorem btw_near {a x b : Int} (ha : pos a = true) (hx : pos x = true) (hb : pos b = true) (h3 : a ≠ b) : btw a x b = (decide (0 < cdist a x) && decide (cdist a x < cdist a b)) := by
  have h1 := pos_iff.1 ha
  have h2 := pos_iff.1 hx
  have h4 := pos_iff.1 hb
  rw [cdist_yes' ⟨ha, hx⟩, cdist_yes' ⟨ha, hb⟩, Bool.eq_iff_iff, btw_iff ha hx hb]
  unfold dst
  simp; omega
theorem btw_full {a x : Int} (ha : pos a = true) (hx : pos x = true) : btw a x a = (x != a) := by
  rw [Bool.eq_iff_iff, btw_iff ha hx ha]; simp; omega
theorem hld_iff {a b k : Int} (ha : pos a = true) (hb : pos b = true) (hk : pos k = true) : hld a b k = true ↔ (k = b ∨ a = b ∨ (a < b ∧ a < k ∧ k < b) ∨ (b ≤ a ∧ (a < k ∨ k < b))) := by
  unfold hld rhld; simp only [ha, hb, hk, Bool.true_and, Bool.or_eq_true, beq_iff_eq, rbtw_iff]; omega
/-- A range is divided by every key in it. -/
theorem hld_divide {a b c k : Int} (ha : pos a = true) (hb : pos b = true) (hc : pos c = true) (hk : pos k = true) (hne : a ≠ c) (h : btw a b c = true) : hld a c k = (hld a b k != hld b c k) := by
  have h0 := pos_iff.1 ha
  have h1 := pos_iff.1 hb
  have h2 := pos_iff.1 hc
  have h3 := pos_iff.1 hk
  rw [btw_iff ha hb hc] at h
  have e1 := hld_iff ha hc hk
  have e2 := hld_iff ha hb hk
  have e3 := hld_iff hb hc hk
  cases x1 : hld a c k <;> cases x2 : hld a b k <;> cases x3 : hld b c k <;> simp only [x1, x2, x3, Bool.false_eq_true, false_iff, true_iff, bne_self_eq_false] at e1 e2 e3 ⊢ <;> first | rfl | (exfalso; omega)

/-! ### How many keys a range has -/
def cntTo (a b : Int) (k : Nat) : Nat := ((List.range k).filter fun (j : Nat) => hld a b (j : Int)).length
theorem cntTo_succ (a b : Int) (k : Nat) : cntTo a b (k + 1) = cntTo a b k + (if hld a b (k : Int) = true then 1 else 0) := by
  unfold cntTo
  rw [List.range_succ, List.filter_append, List.length_append]
  by_cases h : hld a b (k : Int) = true
  · rw [if_pos h]; simp [h]
  · rw [if_neg h]; simp [h]
theorem cntTo_le (a b : Int) (k : Nat) : cntTo a b k ≤ k := by
  induction k with
  | zero => exact Nat.le_refl _
  | succ n ih => rw [cntTo_succ]; split <;> omega
theorem cntTo_same {a : Int} (ha : pos a = true) (k : Nat) (hk : k ≤ 64) : cntTo a a k = k := by
  induction k with
  | zero => rfl
  | succ n ih =>
    have : hld a a (n : Int) = true := (hld_iff ha ha (pos_iff.2 (by omega))).2 (by omega)
    rw [cntTo_succ, if_pos this, ih (by omega)]
theorem cntTo_up {a b : Int} (ha : pos a = true) (hb : pos b = true) (h : a < b) (k : Nat) (hk : k ≤ 64) : (cntTo a b k : Int) = if (k : Int) ≤ a + 1 then 0 else if (k : Int) ≤ b + 1 then k - 1 - a else b - a := by
  have h1 := pos_iff.1 ha
  have h2 := pos_iff.1 hb
  induction k with
  | zero => rw [if_pos (by omega)]; rfl
  | succ n ih =>
    have e := hld_iff ha hb (pos_iff.2 (show (0 : Int) ≤ (n : Int) ∧ (n : Int) < 64 by omega))
    have i := ih (by omega)
    rw [cntTo_succ]
    by_cases c : hld a b (n : Int) = true
    · rw [if_pos c]; rw [e] at c; split at i <;> split <;> (try split at i) <;> (try split) <;> omega
    · rw [if_neg c]; rw [e] at c; split at i <;> split <;> (try split at i) <;> (try split) <;> omega
theorem cntTo_down {a b : Int} (ha : pos a = true) (hb : pos b = true) (h : b < a) (k : Nat) (hk : k ≤ 64) : (cntTo a b k : Int) = (if (k : Int) ≤ b + 1 then (k : Int) else b + 1) + (if (k : Int) ≤ a + 1 then 0 else (k : Int) - 1 - a) := by
  have h1 := pos_iff.1 ha
  have h2 := pos_iff.1 hb
  induction k with
  | zero => rw [if_pos (by omega), if_pos (by omega)]; rfl
  | succ n ih =>
    have e := hld_iff ha hb (pos_iff.2 (show (0 : Int) ≤ (n : Int) ∧ (n : Int) < 64 by omega))
    have i := ih (by omega)
    rw [cntTo_succ]
    by_cases c : hld a b (n : Int) = true
    · rw [if_pos c]; rw [e] at c; split at i <;> split at i <;> split <;> split <;> omega
    · rw [if_neg c]; rw [e] at c; split at i <;> split at i <;> split <;> split <;> omega
theorem cnt_all {a b : Int} (ha : pos a = true) (hb : pos b = true) : (cntTo a b 64 : Int) = if a = b then 64 else cdist a b := by
  have h1 := pos_iff.1 ha
  have h2 := pos_iff.1 hb
  rw [cdist_yes' ⟨ha, hb⟩]
  unfold dst
  rcases (by omega : a = b ∨ a < b ∨ b < a) with h | h | h
  · subst h; rw [if_pos rfl, cntTo_same ha 64 (Nat.le_refl _)]; rfl
  · rw [if_neg (by omega), cntTo_up ha hb h 64 (Nat.le_refl _)]; split <;> (try split) <;> omega
  · rw [if_neg (by omega), cntTo_down ha hb h 64 (Nat.le_refl _)]; split <;> split <;> omega
end Go.Proofs.Ytkepfmekghbkeaa
