/- Plain laws of lookups: fingers, the next node to ask, paths. No program in sight. -/
import Derived.Test.YtkepfmekghbkeaaPlainM
namespace Go.Proofs.Ytkepfmekghbkeaa
set_option linter.unusedVariables false
/-- The next node, said by distances. -/
theorem nxt_near {xs : List Int} (h : nval xs = true) {key : Int} (hk : pos key = true) : nxt xs key ∈ xs ∧ ∀ n ∈ xs, dst key (nxt xs key) ≤ dst key n := by
  have hl := nval_len h
  obtain ⟨h1, h2⟩ := nxt_least (nval_asc h) hl.1 key
  have hp := pos_iff.1 hk
  refine ⟨h1, fun n hn => ?_⟩
  have hn' := pos_iff.1 (node_pos h hn)
  have hm' := pos_iff.1 (node_pos h h1)
  generalize nxt xs key = m at *
  unfold dst
  rcases h2 with ⟨h2, h3⟩ | ⟨h2, h3⟩
  · have h4 := h3 n hn
    rcases Int.lt_or_le n key with h5 | h5
    · omega
    · have := h4 h5; omega
  · have h4 := h2 n hn
    have h5 := h3 n hn
    have h6 := h2 m h1
    omega
/-- The node before, said by distances: the last one that is not the key, if there is one. -/
theorem prv_near {xs : List Int} (h : nval xs = true) {key : Int} (hk : pos key = true) : prv xs key ∈ xs ∧ ∀ n ∈ xs, (key - 1 - prv xs key) % 64 ≤ (key - 1 - n) % 64 := by
  have hl := nval_len h
  have ha := nval_asc h
  have hp := pos_iff.1 hk
  have h1 := prv_mem hl.1 key
  refine ⟨h1, fun n hn => ?_⟩
  have hn' := pos_iff.1 (node_pos h hn)
  have hm' := pos_iff.1 (node_pos h h1)
  obtain ⟨i, hi, rfl⟩ := List.getElem_of_mem hn
  rcases prv_at hl.1 key with ⟨m, hm, e, h2, h3⟩ | ⟨e, h2⟩
  · rw [e] at hm' ⊢
    rcases Nat.lt_or_ge m i with h4 | h4
    · have h5 := h3 i h4 hi
      have h6 := asc_lt ha m i h4 hi
      omega
    · have := asc_le ha i m h4 hm; omega
  · rw [e] at hm' ⊢
    have h3 := h2 i hi
    have h4 := h2 (xs.length - 1) (by omega)
    have h5 := asc_le ha i (xs.length - 1) (by omega) (by omega)
    omega
/-- A node and its place. -/
def nodeOk (xs : List Int) (id : Int) : Bool := nval xs && xs.any (fun x => x == id)
theorem nodeOk_iff {xs : List Int} {id : Int} : nodeOk xs id = true ↔ nval xs = true ∧ id ∈ xs := by
  unfold nodeOk; rw [Bool.and_eq_true, List.any_eq_true]
  constructor
  · rintro ⟨h, x, hx, e⟩
    rw [beq_iff_eq] at e; subst e; exact ⟨h, hx⟩
  · rintro ⟨h, hx⟩
    exact ⟨h, id, hx, by simp⟩
/-- Finger number i. -/
def fing (xs : List Int) (id : Int) (i : Nat) : Int := nxt xs ((id + (2 : Int) ^ i) % 64)
def fingTo (xs : List Int) (id : Int) (k : Nat) : List Int := (List.range k).map (fing xs id)
theorem fingTo_succ (xs : List Int) (id : Int) (k : Nat) : fingTo xs id (k + 1) = fingTo xs id k ++ [fing xs id k] := by simp [fingTo, List.range_succ]
theorem fingTo_len (xs : List Int) (id : Int) (k : Nat) : (fingTo xs id k).length = k := by simp [fingTo]
theorem fingTo_at (xs : List Int) (id : Int) (k i : Nat) (h : i < k) : (fingTo xs id k)[i]? = some (fing xs id i) := by simp [fingTo, h]
def fgs (xs : List Int) (id : Int) : List Int := if nodeOk xs id = true then fingTo xs id 6 else []
/-- The last finger between a node and a key. -/
def pickF (xs : List Int) (id key : Int) : Nat → Int
  | 0 => fing xs id 0
  | i + 1 => if rbtw id (fing xs id (i + 1)) key = true then fing xs id (i + 1) else pickF xs id key i
def lnx (xs : List Int) (id key : Int) : Int := if rhld id (fing xs id 0) key = true then fing xs id 0 else pickF xs id key 5
def lnext (xs : List Int) (id key : Int) : Int := if nodeOk xs id = true ∧ pos key = true then lnx xs id key else -1
theorem p2_mod (id : Int) (i : Nat) : pos ((id + (2 : Int) ^ i) % 64) = true := pos_iff.2 (by omega)
theorem fing_mem {xs : List Int} (h : nval xs = true) (id : Int) (i : Nat) : fing xs id i ∈ xs := (nxt_near h (p2_mod id i)).1
theorem pick_form (xs : List Int) (id key : Int) : ∀ i, (∃ j, 0 < j ∧ j ≤ i ∧ pickF xs id key i = fing xs id j ∧ rbtw id (fing xs id j) key = true ∧ ∀ k, j < k → k ≤ i → rbtw id (fing xs id k) key = false) ∨
    (pickF xs id key i = fing xs id 0 ∧ ∀ k, 0 < k → k ≤ i → rbtw id (fing xs id k) key = false)
  | 0 => .inr ⟨rfl, fun k h1 h2 => by omega⟩
  | i + 1 => by
    unfold pickF
    by_cases h : rbtw id (fing xs id (i + 1)) key = true
    · rw [if_pos h]
      exact .inl ⟨i + 1, by omega, by omega, rfl, h, fun k h1 h2 => by omega⟩
    · rw [if_neg h]
      rcases pick_form xs id key i with ⟨j, h1, h2, h3, h4, h5⟩ | ⟨h1, h2⟩
      · refine .inl ⟨j, h1, by omega, h3, h4, fun k k1 k2 => ?_⟩
        rcases Nat.lt_or_ge i k with h6 | h6
        · have : k = i + 1 := by omega
          subst this; simpa using h
        · exact h5 k k1 h6
      · refine .inr ⟨h1, fun k k1 k2 => ?_⟩
        rcases Nat.lt_or_ge i k with h6 | h6
        · have : k = i + 1 := by omega
          subst this; simpa using h
        · exact h2 k k1 h6
/-- 'between' by distances, for an end that differs. -/
theorem rbtw_dst {a x b : Int} (ha : 0 ≤ a ∧ a < 64) (hx : 0 ≤ x ∧ x < 64) (hb : 0 ≤ b ∧ b < 64) (hab : a ≠ b) : rbtw a x b = true ↔ 0 < dst a x ∧ dst a x < dst a b := by
  rw [rbtw_iff]; unfold dst; omega
theorem owner_self {xs : List Int} (h : nval xs = true) {id : Int} (hid : id ∈ xs) : nxt xs id = id := by
  obtain ⟨h1, h2⟩ := nxt_near h (node_pos h hid)
  have := h2 id hid
  have h3 := pos_iff.1 (node_pos h hid)
  have h4 := pos_iff.1 (node_pos h h1)
  generalize nxt xs id = m at *
  unfold dst at this; omega
/-- Where the first finger holds the key, it is the owner. -/
theorem lnx_holds {xs : List Int} (h : nval xs = true) {id key : Int} (hid : id ∈ xs) (hk : pos key = true) (hne : id ≠ nxt xs key) (hh : rhld id (fing xs id 0) key = true) : fing xs id 0 = nxt xs key := by
  obtain ⟨o1, o2⟩ := nxt_near h hk
  obtain ⟨f1, f2⟩ := nxt_near h (p2_mod id 0)
  have hf : fing xs id 0 = nxt xs ((id + (2 : Int) ^ 0) % 64) := rfl
  rw [← hf] at f1 f2
  have hi := pos_iff.1 (node_pos h hid)
  have hkk := pos_iff.1 hk
  have hfp := pos_iff.1 (node_pos h f1)
  have hop := pos_iff.1 (node_pos h o1)
  have e1 := o2 _ f1
  have e2 := f2 _ o1
  have e3 := f2 _ hid
  generalize fing xs id 0 = f at *
  generalize nxt xs key = o at *
  unfold rhld at hh
  simp only [Bool.or_eq_true, beq_iff_eq, rbtw_iff] at hh
  have e0 : (2 : Int) ^ 0 = 1 := rfl
  rw [e0] at e2 e3
  unfold dst at e1 e2 e3
  rcases hh with hh | hh | hh
  · subst hh; omega
  · omega
  · subst hh; omega
/-- Where it does not, the node that is asked next is nearer to the key, and not there. -/
theorem lnx_nearer {xs : List Int} (h : nval xs = true) {id key : Int} (hid : id ∈ xs) (hk : pos key = true) (hne : id ≠ nxt xs key) (hh : rhld id (fing xs id 0) key = false) :
    pickF xs id key 5 ∈ xs ∧ 0 < dst id (pickF xs id key 5) ∧ dst id (pickF xs id key 5) < dst id key ∧ id ≠ key := by
  have hik : id ≠ key := fun e => by subst e; exact hne (owner_self h hid).symm
  have hi := pos_iff.1 (node_pos h hid)
  have hkk := pos_iff.1 hk
  rcases pick_form xs id key 5 with ⟨j, h1, h2, h3, h4, h5⟩ | ⟨h1, h2⟩
  · rw [h3]
    have hm := fing_mem h id j
    have := (rbtw_dst hi (pos_iff.1 (node_pos h hm)) hkk hik).1 h4
    exact ⟨hm, this.1, this.2, hik⟩
  · rw [h1]
    have hm := fing_mem h id 0
    have hfp := pos_iff.1 (node_pos h hm)
    refine ⟨hm, ?_⟩
    generalize fing xs id 0 = f at *
    have hn : ¬ rhld id f key = true := by simp [hh]
    unfold rhld at hn
    simp only [Bool.or_eq_true, beq_iff_eq, rbtw_iff] at hn
    unfold dst
    refine ⟨?_, ?_, hik⟩ <;> omega
/-- How far a node is from the end of its path. -/
def far (xs : List Int) (key id : Int) : Nat := if id = nxt xs key then 0 else (dst id key).toNat
theorem lnx_far {xs : List Int} (h : nval xs = true) {id key : Int} (hid : id ∈ xs) (hk : pos key = true) (hne : id ≠ nxt xs key) : lnx xs id key ∈ xs ∧ far xs key (lnx xs id key) < far xs key id := by
  have hik : id ≠ key := fun e => by subst e; exact hne (owner_self h hid).symm
  have hi := pos_iff.1 (node_pos h hid)
  have hkk := pos_iff.1 hk
  have hd : 0 < dst id key := by unfold dst; omega
  have hfar : far xs key id = (dst id key).toNat := by unfold far; rw [if_neg hne]
  rw [hfar]
  unfold lnx
  cases hh : rhld id (fing xs id 0) key
  · obtain ⟨h1, h2, h3, -⟩ := lnx_nearer h hid hk hne hh
    rw [if_neg (by simp)]
    refine ⟨h1, ?_⟩
    have hp := pos_iff.1 (node_pos h h1)
    generalize pickF xs id key 5 = m at *
    unfold far
    split
    · omega
    · unfold dst at h2 h3 hd ⊢; omega
  · rw [if_pos rfl]
    refine ⟨fing_mem h id 0, ?_⟩
    rw [lnx_holds h hid hk hne hh]
    unfold far; rw [if_pos rfl]; omega
theorem far_le (xs : List Int) (key id : Int) : far xs key id ≤ 63 := by unfold far dst; split <;> omega
/-- The nodes that are asked. -/
def pathF (xs : List Int) (key : Int) : Nat → Int → List Int
  | 0, id => [id]
  | f + 1, id => if id = nxt xs key then [id] else id :: pathF xs key f (lnx xs id key)
def path (xs : List Int) (key id : Int) : List Int := pathF xs key 64 id
def lpath (xs : List Int) (id key : Int) : List Int := if nodeOk xs id = true ∧ pos key = true then path xs key id else []
theorem pathF_more {xs : List Int} (h : nval xs = true) {key : Int} (hk : pos key = true) : ∀ (f : Nat) (id : Int), id ∈ xs → far xs key id ≤ f → pathF xs key (f + 1) id = pathF xs key f id
  | 0, id, hid, hf => by
    by_cases e : id = nxt xs key
    · unfold pathF; rw [if_pos e]
    · have := (lnx_far h hid hk e).2; omega
  | f + 1, id, hid, hf => by
    by_cases e : id = nxt xs key
    · unfold pathF; rw [if_pos e, if_pos e]
    · obtain ⟨h1, h2⟩ := lnx_far h hid hk e
      have ih := pathF_more h hk f _ h1 (by omega)
      unfold pathF
      rw [if_neg e, if_neg e, ih]
theorem path_end {xs : List Int} {key id : Int} (e : id = nxt xs key) : path xs key id = [id] := by unfold path pathF; rw [if_pos e]
theorem path_step {xs : List Int} (h : nval xs = true) {key : Int} (hk : pos key = true) {id : Int} (hid : id ∈ xs) (e : id ≠ nxt xs key) : path xs key id = id :: path xs key (lnx xs id key) := by
  obtain ⟨h1, h2⟩ := lnx_far h hid hk e
  have h3 := far_le xs key id
  have := pathF_more h hk 63 _ h1 (by omega)
  unfold path
  rw [this]
  conv => lhs; unfold pathF
  rw [if_neg e]
/-- Induction along a path. -/
theorem path_ind {xs : List Int} (h : nval xs = true) {key : Int} (hk : pos key = true) (P : Int → List Int → Prop) (h0 : nxt xs key ∈ xs → P (nxt xs key) [nxt xs key])
    (h1 : ∀ id, id ∈ xs → id ≠ nxt xs key → lnx xs id key ∈ xs → far xs key (lnx xs id key) < far xs key id → P (lnx xs id key) (path xs key (lnx xs id key)) → P id (id :: path xs key (lnx xs id key))) : ∀ id, id ∈ xs → P id (path xs key id) := by
  have key_ : ∀ n id, id ∈ xs → far xs key id ≤ n → P id (path xs key id) := by
    intro n
    induction n with
    | zero =>
      intro id hid hf
      by_cases e : id = nxt xs key
      · rw [path_end e]; subst e; exact h0 hid
      · have := (lnx_far h hid hk e).2; omega
    | succ n ih =>
      intro id hid hf
      by_cases e : id = nxt xs key
      · rw [path_end e]; subst e; exact h0 hid
      · obtain ⟨a, b⟩ := lnx_far h hid hk e
        rw [path_step h hk hid e]
        exact h1 id hid e a b (ih _ a (by omega))
  exact fun id hid => key_ _ id hid (Nat.le_refl _)
theorem path_head {xs : List Int} (h : nval xs = true) {key : Int} (hk : pos key = true) {id : Int} (hid : id ∈ xs) : (path xs key id)[0]? = some id := by
  by_cases e : id = nxt xs key
  · rw [path_end e]; rfl
  · rw [path_step h hk hid e]; rfl
theorem path_mem {xs : List Int} (h : nval xs = true) {key : Int} (hk : pos key = true) {id : Int} (hid : id ∈ xs) : ∀ x ∈ path xs key id, x ∈ xs ∧ far xs key x ≤ far xs key id := by
  refine path_ind h hk (fun id l => ∀ x ∈ l, x ∈ xs ∧ far xs key x ≤ far xs key id) ?_ ?_ id hid
  · intro hm x hx
    simp at hx; subst hx; exact ⟨hm, Nat.le_refl _⟩
  · intro id hid e h1 h2 ih x hx
    rcases List.mem_cons.1 hx with hx | hx
    · subst hx; exact ⟨hid, Nat.le_refl _⟩
    · have := ih x hx; exact ⟨this.1, by omega⟩
theorem path_last {xs : List Int} (h : nval xs = true) {key : Int} (hk : pos key = true) {id : Int} (hid : id ∈ xs) : (path xs key id).getLast? = some (nxt xs key) := by
  refine path_ind h hk (fun id l => l.getLast? = some (nxt xs key)) ?_ ?_ id hid
  · intro _; rfl
  · intro id hid e h1 h2 ih
    rw [List.getLast?_cons, ih]; rfl
theorem path_nodup {xs : List Int} (h : nval xs = true) {key : Int} (hk : pos key = true) {id : Int} (hid : id ∈ xs) : (path xs key id).Nodup := by
  refine path_ind h hk (fun id l => l.Nodup) ?_ ?_ id hid
  · intro _; simp
  · intro id hid e h1 h2 ih
    refine List.nodup_cons.2 ⟨fun hm => ?_, ih⟩
    have := (path_mem h hk h1 id hm).2
    omega
theorem path_drop {xs : List Int} (h : nval xs = true) {key : Int} (hk : pos key = true) {id : Int} (hid : id ∈ xs) : ∀ k x, (path xs key id)[k]? = some x → path xs key x = (path xs key id).drop k := by
  refine path_ind h hk (fun id l => ∀ k x, l[k]? = some x → path xs key x = l.drop k) ?_ ?_ id hid
  · intro _ k x hx
    rcases k with _ | k
    · simp at hx; subst hx; exact path_end rfl
    · simp at hx
  · intro id hid e h1 h2 ih k x hx
    rcases k with _ | k
    · simp at hx; subst hx; rw [path_step h hk hid e]; rfl
    · exact ih k x (by simpa using hx)
/-- Each node is the one that the node before it asks. -/
theorem path_next {xs : List Int} (h : nval xs = true) {key : Int} (hk : pos key = true) {id : Int} (hid : id ∈ xs) (k : Nat) (x y : Int) (hx : (path xs key id)[k]? = some x) (hy : (path xs key id)[k + 1]? = some y) : y = lnx xs x key ∧ x ∈ xs := by
  have h1 := path_drop h hk hid k x hx
  have hxm := (path_mem h hk hid x (List.mem_of_getElem? hx)).1
  refine ⟨?_, hxm⟩
  have h2 : ((path xs key id).drop k)[1]? = some y := by rw [List.getElem?_drop]; exact hy
  rw [← h1] at h2
  by_cases e : x = nxt xs key
  · rw [path_end e] at h2; simp at h2
  · rw [path_step h hk hxm e] at h2
    have h3 := path_head h hk (lnx_far h hxm hk e).1
    simp only [List.getElem?_cons_succ] at h2
    rw [h3] at h2; injection h2 with h2; exact h2.symm
theorem path_len {xs : List Int} (h : nval xs = true) {key : Int} (hk : pos key = true) {id : Int} (hid : id ∈ xs) : 1 ≤ (path xs key id).length := by
  have := path_head h hk hid
  exact (List.getElem?_eq_some_iff.1 this).1
/-- Each step halves the distance to the node before the key. -/
theorem path_short_of {xs : List Int} (h : nval xs = true) {key : Int} (hk : pos key = true) : ∀ (k : Nat), k ≤ 6 → ∀ id, id ∈ xs → dst id (prv xs key) < (2 : Int) ^ k → (path xs key id).length ≤ k + 2 := by
  obtain ⟨p1, p2⟩ := prv_near h hk
  have hpp := pos_iff.1 (node_pos h p1)
  have hkk := pos_iff.1 hk
  obtain ⟨o1, o2⟩ := nxt_near h hk
  have hop := pos_iff.1 (node_pos h o1)
  intro k
  induction k with
  | zero =>
    intro _ id hid hd
    by_cases e : id = nxt xs key
    · rw [path_end e]; simp
    · rw [path_step h hk hid e]
      have hi := pos_iff.1 (node_pos h hid)
      have hik : id ≠ key := fun e' => by subst e'; exact e (owner_self h hid).symm
      have hip : id = prv xs key := by
        have e0 : (2 : Int) ^ 0 = 1 := rfl
        rw [e0] at hd
        generalize prv xs key = p at *
        unfold dst at hd; omega
      have hh : rhld id (fing xs id 0) key = true := by
        obtain ⟨f1, f2⟩ := nxt_near h (p2_mod id 0)
        have hf : fing xs id 0 = nxt xs ((id + (2 : Int) ^ 0) % 64) := rfl
        rw [← hf] at f1 f2
        have hfp := pos_iff.1 (node_pos h f1)
        have e1 := p2 _ f1
        rw [← hip] at e1
        generalize fing xs id 0 = f at *
        unfold rhld
        simp only [Bool.or_eq_true, beq_iff_eq, rbtw_iff]
        omega
      have hl : lnx xs id key = nxt xs key := by
        unfold lnx; rw [if_pos hh]; exact lnx_holds h hid hk e hh
      rw [hl, path_end rfl]; simp
  | succ k ih =>
    intro hk6 id hid hd
    by_cases hd' : dst id (prv xs key) < (2 : Int) ^ k
    · have := ih (by omega) id hid hd'; omega
    by_cases e : id = nxt xs key
    · rw [path_end e]; simp
    · rw [path_step h hk hid e]
      have hi := pos_iff.1 (node_pos h hid)
      have hik : id ≠ key := fun e' => by subst e'; exact e (owner_self h hid).symm
      cases hh : rhld id (fing xs id 0) key
      · have hl : lnx xs id key = pickF xs id key 5 := by unfold lnx; rw [hh]; rfl
        obtain ⟨m1, m2, m3, -⟩ := lnx_nearer h hid hk e hh
        rw [hl]
        have hmp := pos_iff.1 (node_pos h m1)
        have b1 := p2 _ m1
        have b2 := p2 _ hid
        have goal : dst (pickF xs id key 5) (prv xs key) < (2 : Int) ^ k := by
          have hkb : rbtw id (fing xs id k) key = true ∧ (2 : Int) ^ k ≤ dst id (fing xs id k) := by
            obtain ⟨f1, f2⟩ := nxt_near h (p2_mod id k)
            have hf : fing xs id k = nxt xs ((id + (2 : Int) ^ k) % 64) := rfl
            rw [← hf] at f1 f2
            have hfp := pos_iff.1 (node_pos h f1)
            have e1 := f2 _ p1
            rw [rbtw_dst hi hfp hkk hik]
            generalize fing xs id k = f at *
            generalize prv xs key = p at *
            rcases (by omega : k = 0 ∨ k = 1 ∨ k = 2 ∨ k = 3 ∨ k = 4 ∨ k = 5) with e | e | e | e | e | e <;> subst e <;> simp only [Int.reducePow, Nat.reduceAdd] at * <;> unfold dst at * <;> omega
          have hj : ∃ j, k ≤ j ∧ j ≤ 5 ∧ pickF xs id key 5 = fing xs id j := by
            rcases pick_form xs id key 5 with ⟨j, h1, h2, h3, h4, h5⟩ | ⟨h1, h2⟩
            · refine ⟨j, ?_, h2, h3⟩
              rcases Nat.lt_or_ge j k with h6 | h6
              · have := h5 k h6 (by omega)
                rw [hkb.1] at this; cases this
              · exact h6
            · rcases Nat.eq_zero_or_pos k with h6 | h6
              · exact ⟨0, by omega, by omega, h1⟩
              · have := h2 k h6 (by omega)
                rw [hkb.1] at this; cases this
          obtain ⟨j, j1, j2, j3⟩ := hj
          obtain ⟨f1, f2⟩ := nxt_near h (p2_mod id j)
          have hf : fing xs id j = nxt xs ((id + (2 : Int) ^ j) % 64) := rfl
          rw [← hf, ← j3] at f2
          have e1 := f2 _ hid
          have hpow : (2 : Int) ^ k ≤ (2 : Int) ^ j := by
            rcases (by omega : j = 0 ∨ j = 1 ∨ j = 2 ∨ j = 3 ∨ j = 4 ∨ j = 5) with e | e | e | e | e | e <;> subst e <;>
              rcases (by omega : k = 0 ∨ k = 1 ∨ k = 2 ∨ k = 3 ∨ k = 4 ∨ k = 5) with e | e | e | e | e | e <;> subst e <;> first | omega | decide
          have hjd : (2 : Int) ^ j ≤ dst id (pickF xs id key 5) := by
            generalize pickF xs id key 5 = m at *
            rcases (by omega : j = 0 ∨ j = 1 ∨ j = 2 ∨ j = 3 ∨ j = 4 ∨ j = 5) with e | e | e | e | e | e <;> subst e <;> simp only [Int.reducePow] at * <;> unfold dst at * <;> omega
          have hpk : (2 : Int) ^ (k + 1) = 2 * (2 : Int) ^ k := by rw [Int.pow_succ]; omega
          generalize pickF xs id key 5 = m at *
          generalize prv xs key = p at *
          generalize (2 : Int) ^ j = pj at *
          rw [hpk] at hd
          generalize (2 : Int) ^ k = pk at *
          unfold dst at *
          omega
        have := ih (by omega) _ m1 goal
        simp only [List.length_cons]; omega
      · have hl : lnx xs id key = nxt xs key := by
          unfold lnx; rw [if_pos hh]; exact lnx_holds h hid hk e hh
        rw [hl, path_end rfl]; simp
theorem path_short {xs : List Int} (h : nval xs = true) {key : Int} (hk : pos key = true) {id : Int} (hid : id ∈ xs) : (path xs key id).length ≤ 8 :=
  path_short_of h hk 6 (Nat.le_refl _) id hid (by unfold dst; have e : (2 : Int) ^ 6 = 64 := rfl; omega)
end Go.Proofs.Ytkepfmekghbkeaa
