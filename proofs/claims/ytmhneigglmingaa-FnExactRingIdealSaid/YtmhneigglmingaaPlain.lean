/- Plain definitions of what the program computes on the circle (positions, distances, between, holds, sets of nodes, next, before), and lemmas about them. No program in sight. -/
namespace Go.Proofs.Ytmhneigglmingaa

/-- A position: 0 to 63. -/
def pos (n : Int) : Bool := decide (0 ≤ n) && decide (n < 64)
theorem pos_iff {n : Int} : pos n = true ↔ 0 ≤ n ∧ n < 64 := by simp [pos]
theorem pos_not {n : Int} : pos n = false ↔ n < 0 ∨ 64 ≤ n := by simp [pos]; omega
/-- Steps upward. -/
def dst (a b : Int) : Int := (b - a + 64) % 64
def cdist (a b : Int) : Int := if pos a = true ∧ pos b = true then dst a b else -1
def rbtw (a x b : Int) : Bool := if a < b then decide (a < x) && decide (x < b) else decide (a < x) || decide (x < b)
def btw (a x b : Int) : Bool := pos a && (pos x && (pos b && rbtw a x b))
def rhld (a b k : Int) : Bool := (k == b) || (rbtw a k b || a == b)
def hld (a b k : Int) : Bool := pos a && (pos b && (pos k && rhld a b k))

theorem cdist_yes {a b : Int} (ha : 0 ≤ a) (ha' : a < 64) (hb : 0 ≤ b) (hb' : b < 64) : cdist a b = dst a b := by
  unfold cdist; rw [if_pos ⟨pos_iff.2 ⟨ha, ha'⟩, pos_iff.2 ⟨hb, hb'⟩⟩]
theorem cdist_no {a b : Int} (h : pos a = false ∨ pos b = false) : cdist a b = -1 := by
  unfold cdist; rw [if_neg]; rintro ⟨h1, h2⟩; rcases h with h | h <;> simp_all
theorem dst_bd (a b : Int) : 0 ≤ dst a b ∧ dst a b < 64 := by unfold dst; omega
theorem cdist_bd (a b : Int) : -1 ≤ cdist a b ∧ cdist a b < 64 := by
  have := dst_bd a b
  unfold cdist; split <;> omega
/-- The implementation's way to say 'between'. -/
theorem btw_dst {a x b : Int} (ha : 0 ≤ a ∧ a < 64) (hx : 0 ≤ x ∧ x < 64) (hb : 0 ≤ b ∧ b < 64) (h1 : x ≠ a) (h2 : x ≠ b) : btw a x b = decide (a = b ∨ dst a x < dst a b) := by
  unfold btw rbtw dst
  simp only [pos_iff.2 ha, pos_iff.2 hx, pos_iff.2 hb, Bool.true_and]
  rw [Bool.eq_iff_iff]
  split <;> simp <;> omega
theorem btw_ends {a x b : Int} (h : x = a ∨ x = b) (hab : a ≠ b ∨ x = a) : btw a x b = false := by
  unfold btw rbtw
  rcases h with rfl | rfl
  · by_cases h' : x < b <;> simp [h']
  · by_cases h' : a < x <;> simp [h']
theorem btw_eq_a (a b : Int) : btw a a b = false := by
  unfold btw rbtw
  by_cases h' : a < b <;> simp [h']
theorem btw_eq_b (a b : Int) : btw a b b = false := by
  unfold btw rbtw
  by_cases h' : a < b <;> simp [h']
theorem btw_no {a x b : Int} (h : pos a = false ∨ pos x = false ∨ pos b = false) : btw a x b = false := by
  unfold btw; rcases h with h | h | h <;> simp [h]
theorem hld_btw (a b k : Int) : hld a b k = (pos a && (pos b && (pos k && ((btw a k b || k == b) || a == b)))) := by
  unfold hld rhld btw
  cases pos a <;> cases pos b <;> cases pos k <;> simp
  cases rbtw a k b <;> cases (k == b) <;> simp

/-! ### Sets of nodes -/
/-- Element i is a position, and greater than the one before it. -/
def ascAt (xs : List Int) (i : Nat) : Bool := pos (xs[i]?.getD 0) && (i == 0 || decide (xs[i-1]?.getD 0 < xs[i]?.getD 0))
def ascTo (xs : List Int) (k : Nat) : Bool := (List.range k).all (ascAt xs)
def asc (xs : List Int) : Bool := ascTo xs xs.length
theorem ascTo_succ (xs : List Int) (k : Nat) : ascTo xs (k + 1) = (ascTo xs k && ascAt xs k) := by
  simp [ascTo, List.range_succ]
theorem asc_false (xs : List Int) (k : Nat) (hk : k < xs.length) (h : ascAt xs k = false) : asc xs = false := by
  unfold asc ascTo
  rw [List.all_eq_false]
  exact ⟨k, by simpa using hk, by simpa using h⟩
theorem ascAt_zero (xs : List Int) (x : Int) (hx : xs[0]? = some x) : ascAt xs 0 = pos x := by simp [ascAt, hx]
theorem ascAt_succ (xs : List Int) (j : Nat) (x y : Int) (hy : xs[j]? = some y) (hx : xs[j + 1]? = some x) : ascAt xs (j + 1) = (pos x && decide (y < x)) := by simp [ascAt, hx, hy]
/-- A set of nodes: 1 to 10 positions, ascending. -/
def nval (xs : List Int) : Bool := decide (1 ≤ xs.length ∧ xs.length ≤ 10) && asc xs

theorem find_hit {α : Type} (xs : List α) (p : α → Bool) (k : Nat) (x : α) (h : (xs.take k).find? p = none) (hx : xs[k]? = some x) (hp : p x = true) : xs.find? p = some x := by
  obtain ⟨hk, rfl⟩ := List.getElem?_eq_some_iff.1 hx
  conv => lhs; rw [← List.take_append_drop k xs]
  rw [List.find?_append, h, Option.none_or, List.drop_eq_getElem_cons hk, List.find?_cons_of_pos hp]
theorem find_miss {α : Type} (xs : List α) (p : α → Bool) (k : Nat) (x : α) (h : (xs.take k).find? p = none) (hx : xs[k]? = some x) (hp : p x = false) : (xs.take (k + 1)).find? p = none := by
  rw [List.take_add_one, hx, List.find?_append, h]
  simp [hp]
theorem find_over {α : Type} (xs : List α) (p : α → Bool) (k : Nat) (h : (xs.take k).find? p = none) (hk : xs.length ≤ k) : xs.find? p = none := by
  rwa [List.take_of_length_le hk] at h
/-- The first node that is reached going upward. -/
def nxt (xs : List Int) (key : Int) : Int := ((xs.find? (fun n => decide (key ≤ n))).getD (xs[0]?.getD 0))
def nnext (xs : List Int) (key : Int) : Int := if nval xs = true ∧ pos key = true then nxt xs key else -1
/-- The first node that is reached going downward, starting below. -/
def prv (xs : List Int) (key : Int) : Int := ((xs.reverse.find? (fun n => decide (n < key))).getD (xs[xs.length - 1]?.getD 0))
def nbefore (xs : List Int) (key : Int) : Int := if nval xs = true ∧ pos key = true then prv xs key else -1
theorem rfind_hit {α : Type} (xs : List α) (p : α → Bool) (j : Nat) (x : α) (h : (xs.drop (j + 1)).reverse.find? p = none) (hx : xs[j]? = some x) (hp : p x = true) : xs.reverse.find? p = some x := by
  obtain ⟨hk, rfl⟩ := List.getElem?_eq_some_iff.1 hx
  conv => lhs; rw [← List.take_append_drop j xs]
  rw [List.reverse_append, List.find?_append, List.drop_eq_getElem_cons hk, List.reverse_cons, List.find?_append, h]
  simp [hp]
theorem rfind_miss {α : Type} (xs : List α) (p : α → Bool) (j : Nat) (x : α) (h : (xs.drop (j + 1)).reverse.find? p = none) (hx : xs[j]? = some x) (hp : p x = false) : (xs.drop j).reverse.find? p = none := by
  obtain ⟨hk, rfl⟩ := List.getElem?_eq_some_iff.1 hx
  rw [List.drop_eq_getElem_cons hk, List.reverse_cons, List.find?_append, h]
  simp [hp]
theorem nxt_hit (xs : List Int) (key : Int) (k : Nat) (x : Int) (h : (xs.take k).find? (fun n => decide (key ≤ n)) = none) (hx : xs[k]? = some x) (hp : key ≤ x) : nxt xs key = x := by
  unfold nxt; rw [find_hit xs _ k x h hx (by simpa using hp)]; rfl
theorem nxt_over (xs : List Int) (key : Int) (k : Nat) (x : Int) (h : (xs.take k).find? (fun n => decide (key ≤ n)) = none) (hk : xs.length ≤ k) (hx : xs[0]? = some x) : nxt xs key = x := by
  unfold nxt; rw [find_over xs _ k h hk, hx]; rfl
theorem prv_hit (xs : List Int) (key : Int) (j : Nat) (x : Int) (h : (xs.drop (j + 1)).reverse.find? (fun n => decide (n < key)) = none) (hx : xs[j]? = some x) (hp : x < key) : prv xs key = x := by
  unfold prv; rw [rfind_hit xs _ j x h hx (by simpa using hp)]; rfl
theorem prv_over (xs : List Int) (key : Int) (x : Int) (h : (xs.drop 0).reverse.find? (fun n => decide (n < key)) = none) (hx : xs[xs.length - 1]? = some x) : prv xs key = x := by
  unfold prv; rw [List.drop_zero] at h; rw [h, hx]; rfl
theorem nval_len {xs : List Int} (h : nval xs = true) : 1 ≤ xs.length ∧ xs.length ≤ 10 := by
  unfold nval at h; simp at h; exact h.1

/-! ### Laws of distances -/
theorem cdist_neg {a b : Int} (h : ¬ (pos a = true ∧ pos b = true)) : cdist a b = -1 := by unfold cdist; rw [if_neg h]
theorem cdist_yes' {a b : Int} (h : pos a = true ∧ pos b = true) : cdist a b = dst a b := by unfold cdist; rw [if_pos h]
theorem dist_self {a : Int} (h : pos a = true) : cdist a a = 0 := by rw [cdist_yes' ⟨h, h⟩]; unfold dst; omega
theorem dist_back {a b : Int} (ha : pos a = true) (hb : pos b = true) (h : a ≠ b) : cdist a b + cdist b a = 64 ∧ 0 < cdist a b := by
  rw [cdist_yes' ⟨ha, hb⟩, cdist_yes' ⟨hb, ha⟩]
  have h1 := pos_iff.1 ha
  have h2 := pos_iff.1 hb
  unfold dst; omega
theorem dist_add {a b c : Int} (ha : pos a = true) (hb : pos b = true) (hc : pos c = true) : cdist a b + cdist b c - cdist a c = 0 ∨ cdist a b + cdist b c - cdist a c = 64 := by
  rw [cdist_yes' ⟨ha, hb⟩, cdist_yes' ⟨hb, hc⟩, cdist_yes' ⟨ha, hc⟩]
  have h1 := pos_iff.1 ha
  have h2 := pos_iff.1 hb
  have h3 := pos_iff.1 hc
  unfold dst; omega
end Go.Proofs.Ytmhneigglmingaa
