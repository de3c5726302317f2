/- Plain laws of sets of nodes, going on: the node before; a node less, a node twice, a node more. No program in sight. -/
import Derived.Test.YtkepfmekghbkeaaPlainN
namespace Go.Proofs.Ytkepfmekghbkeaa
set_option linter.unusedVariables false
theorem asc_le {xs : List Int} (h : asc xs = true) (i j : Nat) (hij : i ≤ j) (hj : j < xs.length) : xs[i]'(by omega) ≤ xs[j] := by
  rcases Nat.lt_or_ge i j with h1 | h1
  · exact Int.le_of_lt (asc_lt h i j h1 hj)
  · have : i = j := by omega
    subst this; exact Int.le_refl _
theorem before_btw {xs : List Int} (h : nval xs = true) {key x : Int} (hk : pos key = true) (hx : x ∈ xs) (hne : nbefore xs key ≠ key) : btw (nbefore xs key) x key = false := by
  have ha := nval_asc h
  have hl := nval_len h
  rw [nbefore_yes h hk] at hne ⊢
  obtain ⟨i, hi, rfl⟩ := List.getElem_of_mem hx
  have hb := btw_iff (node_pos h (prv_mem hl.1 key)) (node_pos h hx) hk
  rcases prv_at hl.1 key with ⟨m, hm, e, h1, h2⟩ | ⟨e, h1⟩
  · rw [e] at hb ⊢
    rw [Bool.eq_false_iff]
    intro hc
    rw [hb] at hc
    rcases Nat.lt_or_ge m i with h3 | h3
    · have := h2 i h3 hi; omega
    · have := asc_le ha i m h3 hm; omega
  · rw [e] at hb hne ⊢
    rw [Bool.eq_false_iff]
    intro hc
    rw [hb] at hc
    have h3 := h1 i hi
    have h4 := h1 (xs.length - 1) (by omega)
    have h5 := asc_le ha i (xs.length - 1) (by omega) (by omega)
    omega
theorem before_one {xs : List Int} (h : nval xs = true) {key : Int} (hk : pos key = true) (he : nbefore xs key = key) : xs.length = 1 := by
  have ha := nval_asc h
  have hl := nval_len h
  rw [nbefore_yes h hk] at he
  rcases prv_at hl.1 key with ⟨m, hm, e, h1, h2⟩ | ⟨e, h1⟩
  · omega
  · rcases Nat.lt_or_ge 1 xs.length with h2 | h2
    · have h3 := h1 0 (by omega)
      have h4 := asc_lt ha 0 (xs.length - 1) (by omega) (by omega)
      omega
    · omega
/-- Ascending, said of pairs. -/
theorem asc_pairs (xs : List Int) : asc xs = true ↔ (∀ x ∈ xs, 0 ≤ x ∧ x < 64) ∧ xs.Pairwise (· < ·) := by
  constructor
  · intro h
    refine ⟨fun x hx => ?_, List.pairwise_iff_getElem.2 fun i j hi hj hij => asc_lt h i j hij hj⟩
    obtain ⟨i, hi, rfl⟩ := List.getElem_of_mem hx
    exact asc_pos h i hi
  · rintro ⟨h1, h2⟩
    exact asc_of (fun i hi => h1 _ (List.getElem_mem hi)) (fun i hi => List.pairwise_iff_getElem.1 h2 i (i + 1) (by omega) hi (by omega))
theorem less_valid {xs : List Int} (h : nval xs = true) (k : Nat) (hk : k < xs.length) : nval (xs.take k ++ xs.drop (k + 1)) = decide (1 < xs.length) := by
  have hl := nval_len h
  have ha := (asc_pairs xs).1 (nval_asc h)
  have e : xs.take k ++ xs.drop (k + 1) = xs.eraseIdx k := (List.eraseIdx_eq_take_drop_succ xs k).symm
  have hlen : (xs.take k ++ xs.drop (k + 1)).length = xs.length - 1 := by simp; omega
  have hasc : asc (xs.take k ++ xs.drop (k + 1)) = true := by
    rw [asc_pairs]
    have hs : (xs.take k ++ xs.drop (k + 1)).Sublist xs := by rw [e]; exact List.eraseIdx_sublist xs k
    exact ⟨fun x hx => ha.1 x (hs.subset hx), ha.2.sublist hs⟩
  unfold nval
  rw [hlen, hasc, Bool.and_true]
  rw [Bool.eq_iff_iff]; simp; omega
theorem twice_valid {xs : List Int} (k : Nat) (hk : k < xs.length) : nval (xs.take (k + 1) ++ xs.drop k) = false := by
  have hasc : asc (xs.take (k + 1) ++ xs.drop k) = false := by
    rw [Bool.eq_false_iff]
    intro hc
    have h2 := ((asc_pairs _).1 hc).2
    rw [List.pairwise_append] at h2
    have m1 : xs[k] ∈ xs.take (k + 1) := List.mem_iff_getElem.2 ⟨k, by simp; omega, by simp⟩
    have m2 : xs[k] ∈ xs.drop k := List.mem_iff_getElem.2 ⟨0, by simp; omega, by simp⟩
    have h3 := h2.2.2 xs[k] m1 xs[k] m2
    omega
  unfold nval; rw [hasc]; simp
/-- Which value the next node is. -/
theorem nxt_least {xs : List Int} (h : asc xs = true) (hl : 1 ≤ xs.length) (key : Int) : nxt xs key ∈ xs ∧ ((key ≤ nxt xs key ∧ ∀ x ∈ xs, key ≤ x → nxt xs key ≤ x) ∨ ((∀ x ∈ xs, x < key) ∧ ∀ x ∈ xs, nxt xs key ≤ x)) := by
  refine ⟨nxt_mem hl key, ?_⟩
  rcases nxt_at hl key with ⟨m, hm, e, h1, h2⟩ | ⟨e, h1⟩
  · left
    rw [e]
    refine ⟨h1, fun x hx hk => ?_⟩
    obtain ⟨i, hi, rfl⟩ := List.getElem_of_mem hx
    rcases Nat.lt_or_ge i m with h3 | h3
    · have := h2 i h3; omega
    · exact asc_le h m i h3 hi
  · right
    rw [e]
    refine ⟨fun x hx => ?_, fun x hx => ?_⟩
    · obtain ⟨i, hi, rfl⟩ := List.getElem_of_mem hx
      exact h1 i hi
    · obtain ⟨i, hi, rfl⟩ := List.getElem_of_mem hx
      exact asc_le h 0 i (by omega) hi
theorem nodup_len : ∀ (l m : List Int), l.Nodup → (∀ x ∈ l, x ∈ m) → l.length ≤ m.length
  | [], m, _, _ => Nat.zero_le _
  | a :: l, m, hd, hs => by
    have h1 := nodup_len l (m.erase a) (List.nodup_cons.1 hd).2 (fun x hx => (List.mem_erase_of_ne (fun e => (List.nodup_cons.1 hd).1 (by rw [← e]; exact hx))).2 (hs x (List.mem_cons_of_mem _ hx)))
    have h2 := hs a (List.mem_cons_self)
    have h3 : 0 < m.length := List.length_pos_of_mem h2
    rw [List.length_erase_of_mem h2] at h1
    simp only [List.length_cons]; omega
/-- The nodes and one more, up to k. -/
def allTo (xs : List Int) (p : Int) (k : Nat) : List Int := ((List.range k).map fun (j : Nat) => (j : Int)).filter fun j => has' xs j || j == p
where has' (xs : List Int) (n : Int) : Bool := xs.any (fun x => x == n)
theorem allTo_succ (xs : List Int) (p : Int) (k : Nat) : allTo xs p (k + 1) = allTo xs p k ++ (if (xs.any (fun x => x == (k : Int)) || (k : Int) == p) = true then [(k : Int)] else []) := by
  unfold allTo allTo.has'
  rw [List.range_succ, List.map_append, List.filter_append]
  congr 1
  by_cases h : (xs.any (fun x => x == (k : Int)) || (k : Int) == p) = true
  · rw [if_pos h]; simp only [List.map_cons, List.map_nil, List.filter_cons, h, if_true, List.filter_nil]
  · rw [if_neg h]; simp only [List.map_cons, List.map_nil, List.filter_cons, h, List.filter_nil]; rfl
theorem allTo_le (xs : List Int) (p : Int) (k : Nat) : (allTo xs p k).length ≤ k := by
  unfold allTo
  exact Nat.le_trans (List.length_filter_le _ _) (by simp)
theorem allTo_mem {xs : List Int} (ha : ∀ x ∈ xs, 0 ≤ x ∧ x < 64) {p : Int} (hp : 0 ≤ p ∧ p < 64) (x : Int) : x ∈ allTo xs p 64 ↔ x ∈ xs ∨ x = p := by
  unfold allTo allTo.has'
  rw [List.mem_filter, List.mem_map]
  constructor
  · rintro ⟨_, h⟩
    rw [Bool.or_eq_true, List.any_eq_true, beq_iff_eq] at h
    rcases h with ⟨y, hy, e⟩ | h
    · rw [beq_iff_eq] at e; subst e; exact .inl hy
    · exact .inr h
  · intro h
    have hb : 0 ≤ x ∧ x < 64 := by rcases h with h | h; · exact ha x h
                                   · subst h; exact hp
    refine ⟨⟨x.toNat, by simp; omega, by omega⟩, ?_⟩
    rw [Bool.or_eq_true, List.any_eq_true, beq_iff_eq]
    rcases h with h | h
    · exact .inl ⟨x, h, by simp⟩
    · exact .inr h
theorem allTo_asc (xs : List Int) (p : Int) : asc (allTo xs p 64) = true := by
  rw [asc_pairs]
  constructor
  · intro x hx
    unfold allTo at hx
    have := (List.mem_filter.1 hx).1
    rw [List.mem_map] at this
    obtain ⟨j, hj, rfl⟩ := this
    have : j < 64 := by simpa using hj
    omega
  · unfold allTo
    refine List.Pairwise.filter _ ?_
    rw [List.pairwise_map]
    exact List.pairwise_lt_range.imp (fun h => by omega)
theorem allTo_valid {xs : List Int} (h : nval xs = true) {p : Int} (hp : 0 ≤ p ∧ p < 64) (hl : xs.length < 10) : nval (allTo xs p 64) = true := by
  have ha := ((asc_pairs xs).1 (nval_asc h)).1
  have hasc := allTo_asc xs p
  have hmem := allTo_mem ha hp
  refine nval_of ?_ ?_ hasc
  · exact List.length_pos_of_mem ((hmem p).2 (.inr rfl))
  · have hnd : (allTo xs p 64).Nodup := ((asc_pairs _).1 hasc).2.imp (fun h => by omega)
    have := nodup_len _ (p :: xs) hnd (fun x hx => by rcases (hmem x).1 hx with h | h; · exact List.mem_cons_of_mem _ h
                                                      · subst h; exact List.mem_cons_self)
    simp only [List.length_cons] at this; omega
/-- A new node takes keys from one node only. -/
theorem join_law {xs : List Int} (h : nval xs = true) {p key : Int} (hp : pos p = true) (hk : pos key = true) (hl : xs.length < 10) (hne : nnext (allTo xs p 64) key ≠ nnext xs key) :
    nnext (allTo xs p 64) key = p ∧ nnext xs key = nnext xs p := by
  have hpp := pos_iff.1 hp
  have hv := allTo_valid h hpp hl
  have ha := ((asc_pairs xs).1 (nval_asc h)).1
  have hmem := allTo_mem ha hpp
  have hl1 := (nval_len h).1
  rw [nnext_yes h hk, nnext_yes hv hk] at hne
  rw [nnext_yes h hk, nnext_yes hv hk, nnext_yes h hp]
  obtain ⟨m1, m2⟩ := nxt_least (nval_asc h) hl1 key
  obtain ⟨q1, q2⟩ := nxt_least (nval_asc h) hl1 p
  obtain ⟨n1, n2⟩ := nxt_least (nval_asc hv) (nval_len hv).1 key
  have hmm := (hmem _).2 (.inl m1)
  have hpm := (hmem _).2 (.inr rfl)
  have hn := (hmem _).1 n1
  generalize nxt (allTo xs p 64) key = n at *
  generalize nxt xs key = m at *
  generalize nxt xs p = q at *
  have e1 : n ∈ xs → (key ≤ m → m ≤ n ∨ n < key) := fun hx hkm => by
    rcases m2 with ⟨_, m3⟩ | ⟨m3, m4⟩
    · rcases Int.lt_or_le n key with h1 | h1
      · exact .inr h1
      · exact .inl (m3 n hx h1)
    · exact .inl (m4 n hx)
  rcases m2 with ⟨m2, m3⟩ | ⟨m2, m3⟩
  · have hnu : key ≤ n ∧ n ≤ m := by
      rcases n2 with ⟨n2, n3⟩ | ⟨n2, n3⟩
      · exact ⟨n2, n3 m hmm m2⟩
      · have := n2 m hmm; omega
    have hnp : n = p := by
      rcases hn with h1 | h1
      · have := m3 n h1 hnu.1; omega
      · exact h1
    subst hnp
    refine ⟨rfl, ?_⟩
    rcases q2 with ⟨q2, q3⟩ | ⟨q2, q3⟩
    · have h1 := q3 m m1 hnu.2
      have h2 := m3 q q1 (by omega)
      omega
    · have := q2 m m1; omega
  · rcases n2 with ⟨n2, n3⟩ | ⟨n2, n3⟩
    · have hnp : n = p := by
        rcases hn with h1 | h1
        · have := m2 n h1; omega
        · exact h1
      subst hnp
      refine ⟨rfl, ?_⟩
      rcases q2 with ⟨q2, q3⟩ | ⟨q2, q3⟩
      · have := m2 q q1; omega
      · have h1 := q3 m m1
        have h2 := m3 q q1
        omega
    · have hnp : n = p := by
        rcases hn with h1 | h1
        · have h2 := m3 n h1
          have h3 := n3 m hmm
          omega
        · exact h1
      subst hnp
      refine ⟨rfl, ?_⟩
      have h1 := n3 m hmm
      rcases q2 with ⟨q2, q3⟩ | ⟨q2, q3⟩
      · have h2 := q3 m m1 h1
        have h3 := m3 q q1
        omega
      · have := q2 m m1; omega
end Go.Proofs.Ytkepfmekghbkeaa
