/- Plain laws of sets of nodes: the next node and the node before. No program in sight. -/
import Derived.Test.YtkepfmekghbkeaaPlainB
namespace Go.Proofs.Ytkepfmekghbkeaa
set_option linter.unusedVariables false
theorem ascTo_at {xs : List Int} {k : Nat} (h : ascTo xs k = true) (i : Nat) (hi : i < k) : ascAt xs i = true := by
  unfold ascTo at h; rw [List.all_eq_true] at h; exact h i (by simpa using hi)
theorem asc_pos {xs : List Int} (h : asc xs = true) (i : Nat) (hi : i < xs.length) : 0 ≤ xs[i] ∧ xs[i] < 64 := by
  have := ascTo_at h i hi
  unfold ascAt at this
  rw [List.getElem?_eq_getElem hi] at this
  simp only [Option.getD_some, Bool.and_eq_true] at this
  exact pos_iff.1 this.1
theorem asc_next {xs : List Int} (h : asc xs = true) (i : Nat) (hi : i + 1 < xs.length) : xs[i] < xs[i + 1] := by
  have := ascTo_at h (i + 1) hi
  unfold ascAt at this
  rw [List.getElem?_eq_getElem hi, show i + 1 - 1 = i from rfl, List.getElem?_eq_getElem (by omega : i < xs.length)] at this
  simp only [Option.getD_some, Bool.and_eq_true, Bool.or_eq_true, decide_eq_true_eq] at this
  rcases this.2 with h1 | h1
  · simp at h1
  · exact h1
theorem asc_lt {xs : List Int} (h : asc xs = true) (i : Nat) : ∀ (j : Nat) (hij : i < j) (hj : j < xs.length), xs[i]'(by omega) < xs[j]
  | j + 1, hij, hj => by
    have h1 := asc_next h j hj
    rcases Nat.lt_or_ge i j with h2 | h2
    · exact Int.lt_trans (asc_lt h i j h2 (by omega)) h1
    · have : i = j := by omega
      subst this; exact h1
theorem asc_of {xs : List Int} (h1 : ∀ i (hi : i < xs.length), 0 ≤ xs[i] ∧ xs[i] < 64) (h2 : ∀ i (hi : i + 1 < xs.length), xs[i] < xs[i + 1]) : asc xs = true := by
  unfold asc ascTo
  rw [List.all_eq_true]
  intro i hi
  have hi : i < xs.length := by simpa using hi
  unfold ascAt
  rw [List.getElem?_eq_getElem hi]
  simp only [Option.getD_some, Bool.and_eq_true, Bool.or_eq_true, decide_eq_true_eq]
  refine ⟨pos_iff.2 (h1 i hi), ?_⟩
  rcases i with _ | j
  · exact .inl rfl
  · right
    rw [show j + 1 - 1 = j from rfl, List.getElem?_eq_getElem (by omega : j < xs.length)]
    exact h2 j hi
theorem nval_asc {xs : List Int} (h : nval xs = true) : asc xs = true := by unfold nval at h; simp only [Bool.and_eq_true] at h; exact h.2
theorem nval_of {xs : List Int} (h1 : 1 ≤ xs.length) (h2 : xs.length ≤ 10) (h : asc xs = true) : nval xs = true := by unfold nval; simp [h1, h2, h]

/-- Where the next node is. -/
theorem nxt_at {xs : List Int} (hx : 1 ≤ xs.length) (key : Int) : (∃ m, ∃ h : m < xs.length, nxt xs key = xs[m] ∧ key ≤ xs[m] ∧ ∀ j (hj : j < m), xs[j]'(by omega) < key) ∨ (nxt xs key = xs[0]'(by omega) ∧ ∀ j (hj : j < xs.length), xs[j] < key) := by
  unfold nxt
  cases e : xs.find? (fun n => decide (key ≤ n)) with
  | none =>
    right
    rw [List.find?_eq_none] at e
    refine ⟨by rw [List.getElem?_eq_getElem (by omega : 0 < xs.length)]; rfl, fun j hj => ?_⟩
    have := e xs[j] (List.getElem_mem hj)
    simp at this; omega
  | some b =>
    left
    rw [List.find?_eq_some_iff_getElem] at e
    obtain ⟨hb, m, hm, rfl, hj⟩ := e
    refine ⟨m, hm, rfl, by simpa using hb, fun j hjm => ?_⟩
    have := hj j hjm
    simp at this; omega
/-- Where the node before is. -/
theorem prv_at {xs : List Int} (hx : 1 ≤ xs.length) (key : Int) : (∃ m, ∃ h : m < xs.length, prv xs key = xs[m] ∧ xs[m] < key ∧ ∀ j (hj : m < j) (hl : j < xs.length), key ≤ xs[j]) ∨ (prv xs key = xs[xs.length - 1]'(by omega) ∧ ∀ j (hj : j < xs.length), key ≤ xs[j]) := by
  unfold prv
  cases e : xs.reverse.find? (fun n => decide (n < key)) with
  | none =>
    right
    rw [List.find?_eq_none] at e
    refine ⟨by rw [List.getElem?_eq_getElem (by omega : xs.length - 1 < xs.length)]; rfl, fun j hj => ?_⟩
    have := e xs[j] (by simp)
    simp at this; omega
  | some b =>
    left
    rw [List.find?_eq_some_iff_getElem] at e
    obtain ⟨hb, m, hm, hmb, hj⟩ := e
    rw [List.length_reverse] at hm
    rw [List.getElem_reverse] at hmb
    refine ⟨xs.length - 1 - m, by omega, hmb.symm, by rw [hmb]; simpa using hb, fun j hjm hl => ?_⟩
    have := hj (xs.length - 1 - j) (by omega)
    rw [List.getElem_reverse] at this
    have e2 : xs.length - 1 - (xs.length - 1 - j) = j := by omega
    simp only [e2] at this
    simp at this; omega
theorem nxt_mem {xs : List Int} (hx : 1 ≤ xs.length) (key : Int) : nxt xs key ∈ xs := by
  rcases nxt_at hx key with ⟨m, h, e, _⟩ | ⟨e, _⟩ <;> rw [e] <;> exact List.getElem_mem _
theorem prv_mem {xs : List Int} (hx : 1 ≤ xs.length) (key : Int) : prv xs key ∈ xs := by
  rcases prv_at hx key with ⟨m, h, e, _⟩ | ⟨e, _⟩ <;> rw [e] <;> exact List.getElem_mem _
theorem nnext_yes {xs : List Int} {key : Int} (h : nval xs = true) (hk : pos key = true) : nnext xs key = nxt xs key := by unfold nnext; rw [if_pos ⟨h, hk⟩]
theorem nbefore_yes {xs : List Int} {key : Int} (h : nval xs = true) (hk : pos key = true) : nbefore xs key = prv xs key := by unfold nbefore; rw [if_pos ⟨h, hk⟩]
theorem nnext_no {xs : List Int} {key : Int} (h : ¬ (nval xs = true ∧ pos key = true)) : nnext xs key = -1 := by unfold nnext; rw [if_neg h]
theorem nbefore_no {xs : List Int} {key : Int} (h : ¬ (nval xs = true ∧ pos key = true)) : nbefore xs key = -1 := by unfold nbefore; rw [if_neg h]
theorem node_pos {xs : List Int} (h : nval xs = true) {x : Int} (hx : x ∈ xs) : pos x = true := by
  obtain ⟨i, hi, rfl⟩ := List.getElem_of_mem hx
  exact pos_iff.2 (asc_pos (nval_asc h) i hi)
/-- The node before node i. -/
theorem prv_node {xs : List Int} (h : nval xs = true) (i : Nat) (hi : i < xs.length) : prv xs xs[i] = if h0 : i = 0 then xs[xs.length - 1]'(by omega) else xs[i - 1]'(by omega) := by
  have ha := nval_asc h
  have hl1 : 1 ≤ xs.length := by omega
  rcases prv_at hl1 xs[i] with ⟨m, hm, e, h1, h2⟩ | ⟨e, h1⟩
  · have hmi : m < i := by
      rcases Nat.lt_or_ge m i with h3 | h3
      · exact h3
      · rcases Nat.lt_or_ge i m with h4 | h4
        · have := asc_lt ha i m h4 hm; omega
        · have : m = i := by omega
          subst this; omega
    rw [dif_neg (by omega), e]
    rcases Nat.lt_or_ge m (i - 1) with h3 | h3
    · have := h2 (i - 1) h3 (by omega)
      have := asc_lt ha (i - 1) i (by omega) hi
      omega
    · have : m = i - 1 := by omega
      subst this; rfl
  · by_cases h0 : i = 0
    · rw [dif_pos h0, e]
    · have := h1 (i - 1) (by omega)
      have := asc_lt ha (i - 1) i (by omega) hi
      omega
/-- A node holds the keys up to its position. -/
theorem next_holds {xs : List Int} (h : nval xs = true) {key : Int} (hk : pos key = true) (i : Nat) (hi : i < xs.length) : hld (prv xs xs[i]) xs[i] key = (xs[i] == nxt xs key) := by
  have ha := nval_asc h
  have hkp := pos_iff.1 hk
  have hl := nval_len h
  rw [Bool.eq_iff_iff, hld_iff (node_pos h (prv_mem hl.1 _)) (node_pos h (List.getElem_mem hi)) hk, beq_iff_eq, prv_node h i hi]
  have hpos := asc_pos ha
  by_cases h0 : i = 0
  · subst h0
    rw [dif_pos rfl]
    have hle : xs[0] ≤ xs[xs.length - 1] := by
      rcases Nat.eq_or_lt_of_le hl.1 with h1 | h1
      · have : xs.length - 1 = 0 := by omega
        simp only [this]; exact Int.le_refl _
      · exact Int.le_of_lt (asc_lt ha 0 _ (by omega) (by omega))
    rcases nxt_at hl.1 key with ⟨m, hm, e, h1, h2⟩ | ⟨e, h1⟩
    · rw [e]
      rcases Nat.eq_zero_or_pos m with h3 | h3
      · subst h3
        exact ⟨fun _ => rfl, fun _ => by omega⟩
      · have h4 := asc_lt ha 0 m h3 hm
        have h5 := h2 0 h3
        have h6 : xs[m] ≤ xs[xs.length - 1] := by
          rcases Nat.lt_or_ge m (xs.length - 1) with h7 | h7
          · exact Int.le_of_lt (asc_lt ha m _ h7 (by omega))
          · have : m = xs.length - 1 := by omega
            subst this; exact Int.le_refl _
        have h8 : xs[0] < xs[xs.length - 1] := by omega
        constructor
        · intro h9; omega
        · intro h9; omega
    · rw [e]
      have := h1 (xs.length - 1) (by omega)
      exact ⟨fun _ => rfl, fun _ => by omega⟩
  · rw [dif_neg h0]
    have hlt := asc_lt ha (i - 1) i (by omega) hi
    rcases nxt_at hl.1 key with ⟨m, hm, e, h1, h2⟩ | ⟨e, h1⟩
    · rw [e]
      rcases Nat.lt_trichotomy m i with h3 | h3 | h3
      · have h4 := asc_lt ha m i h3 hi
        have h5 : xs[m] ≤ xs[i - 1] := by
          rcases Nat.lt_or_ge m (i - 1) with h7 | h7
          · exact Int.le_of_lt (asc_lt ha m _ h7 (by omega))
          · have : m = i - 1 := by omega
            subst this; exact Int.le_refl _
        constructor
        · intro h9; omega
        · intro h9; omega
      · subst h3
        have := h2 (m - 1) (by omega)
        exact ⟨fun _ => rfl, fun _ => by omega⟩
      · have h4 := asc_lt ha i m h3 hm
        have h5 := h2 i h3
        constructor
        · intro h9; omega
        · intro h9; omega
    · rw [e]
      have h2 := h1 i hi
      have h3 := asc_lt ha 0 i (by omega) hi
      constructor
      · intro h9; omega
      · intro h9; omega
end Go.Proofs.Ytkepfmekghbkeaa
