/- Plain definitions and laws of leases: valid leases, the lease of a key, renewing, taking over, merging, counting. No program in sight. -/
import Derived.Test.YtkjolmbcafonaaaDoorPlain
namespace Go.Proofs.YtkjolmbcafonaaaDoor
set_option linter.unusedVariables false
/-- A lease: its end, its owner, its time. -/
abbrev Lse := Int × Int × Int
def timeOk (n : Int) : Bool := decide (0 ≤ n) && decide (n ≤ 999)
theorem timeOk_iff {n : Int} : timeOk n = true ↔ 0 ≤ n ∧ n ≤ 999 := by simp [timeOk]
def lvAt (xs : List Lse) (k : Nat) : Bool := match xs[k]? with
  | some x => pos x.1 && (pos x.2.1 && (timeOk x.2.2 && (match k with | 0 => true | j + 1 => match xs[j]? with | some y => decide (y.1 < x.1) | none => true)))
  | none => true
def lvTo (xs : List Lse) (k : Nat) : Bool := (List.range k).all (lvAt xs)
def lval (xs : List Lse) : Bool := decide (1 ≤ xs.length ∧ xs.length ≤ 12) && lvTo xs xs.length
theorem lvTo_succ (xs : List Lse) (k : Nat) : lvTo xs (k + 1) = (lvTo xs k && lvAt xs k) := by simp [lvTo, List.range_succ]
theorem lv_false (xs : List Lse) (k : Nat) (hk : k < xs.length) (h : lvAt xs k = false) : lvTo xs xs.length = false := by
  unfold lvTo; rw [List.all_eq_false]; exact ⟨k, by simpa using hk, by simpa using h⟩
theorem lvAt_zero {xs : List Lse} {x y z : Int} (h : xs[0]? = some (x, y, z)) : lvAt xs 0 = (pos x && (pos y && timeOk z)) := by unfold lvAt; rw [h]; simp
theorem lvAt_succ {xs : List Lse} {j : Nat} {x y z : Int} {p : Lse} (hp : xs[j]? = some p) (h : xs[j + 1]? = some (x, y, z)) : lvAt xs (j + 1) = (pos x && (pos y && (timeOk z && decide (p.1 < x)))) := by unfold lvAt; rw [h]; simp only [hp]
theorem lval_len {xs : List Lse} (h : lval xs = true) : 1 ≤ xs.length ∧ xs.length ≤ 12 := by unfold lval at h; simp at h; exact h.1
theorem lvTo_at {xs : List Lse} {k : Nat} (h : lvTo xs k = true) (i : Nat) (hi : i < k) : lvAt xs i = true := by
  unfold lvTo at h; rw [List.all_eq_true] at h; exact h i (by simpa using hi)
theorem lv_elem {xs : List Lse} (h : lvTo xs xs.length = true) (i : Nat) (hi : i < xs.length) : pos xs[i].1 = true ∧ pos xs[i].2.1 = true ∧ timeOk xs[i].2.2 = true := by
  have := lvTo_at h i hi
  unfold lvAt at this
  rw [List.getElem?_eq_getElem hi] at this
  simp only [Bool.and_eq_true] at this
  exact ⟨this.1, this.2.1, this.2.2.1⟩
theorem lv_next {xs : List Lse} (h : lvTo xs xs.length = true) (i : Nat) (hi : i + 1 < xs.length) : xs[i].1 < xs[i + 1].1 := by
  have := lvTo_at h (i + 1) hi
  unfold lvAt at this
  rw [List.getElem?_eq_getElem hi] at this
  simp only [Bool.and_eq_true] at this
  have h2 := this.2.2.2
  rw [List.getElem?_eq_getElem (by omega : i < xs.length)] at h2
  simpa using h2
theorem lv_lt {xs : List Lse} (h : lvTo xs xs.length = true) (i : Nat) : ∀ (j : Nat) (hij : i < j) (hj : j < xs.length), (xs[i]'(by omega)).1 < xs[j].1
  | j + 1, hij, hj => by
    have h1 := lv_next h j hj
    rcases Nat.lt_or_ge i j with h2 | h2
    · exact Int.lt_trans (lv_lt h i j h2 (by omega)) h1
    · have : i = j := by omega
      subst this; exact h1
theorem lv_of {xs : List Lse} (h1 : ∀ i (hi : i < xs.length), pos xs[i].1 = true ∧ pos xs[i].2.1 = true ∧ timeOk xs[i].2.2 = true) (h2 : ∀ i (hi : i + 1 < xs.length), xs[i].1 < xs[i + 1].1) : lvTo xs xs.length = true := by
  unfold lvTo
  rw [List.all_eq_true]
  intro i hi
  have hi : i < xs.length := by simpa using hi
  unfold lvAt
  rw [List.getElem?_eq_getElem hi]
  obtain ⟨e1, e2, e3⟩ := h1 i hi
  simp only [e1, e2, e3, Bool.true_and]
  rcases i with _ | j
  · rfl
  · simp only
    rw [List.getElem?_eq_getElem (by omega : j < xs.length)]
    simpa using h2 j hi
/-- Valid leases, said of elements and pairs. -/
theorem lval_iff {xs : List Lse} : lval xs = true ↔ (1 ≤ xs.length ∧ xs.length ≤ 12) ∧ (∀ x ∈ xs, pos x.1 = true ∧ pos x.2.1 = true ∧ timeOk x.2.2 = true) ∧ xs.Pairwise (fun a b => a.1 < b.1) := by
  unfold lval
  rw [Bool.and_eq_true, decide_eq_true_iff]
  refine and_congr_right fun _ => ⟨fun h => ⟨fun x hx => ?_, List.pairwise_iff_getElem.2 fun i j hi hj hij => lv_lt h i j hij hj⟩, fun ⟨h1, h2⟩ => ?_⟩
  · obtain ⟨i, hi, rfl⟩ := List.getElem_of_mem hx
    exact lv_elem h i hi
  · exact lv_of (fun i hi => h1 _ (List.getElem_mem hi)) (fun i hi => List.pairwise_iff_getElem.1 h2 i (i + 1) (by omega) hi (by omega))

/-! ### The lease of a key -/
def lat (xs : List Lse) (key : Int) : Nat := (xs.findIdx? (fun l => decide (key ≤ l.1))).getD 0
def lof (xs : List Lse) (key : Int) : Lse := xs.getD (lat xs key) (0, 0, 0)
theorem lat_form (xs : List Lse) (key : Int) : (∃ x, xs[lat xs key]? = some x ∧ key ≤ x.1 ∧ ∀ (j : Nat) (y : Lse), j < lat xs key → xs[j]? = some y → y.1 < key) ∨ (lat xs key = 0 ∧ ∀ x ∈ xs, x.1 < key) := by
  cases e : xs.findIdx? (fun l => decide (key ≤ l.1)) with
  | none =>
    right
    rw [List.findIdx?_eq_none_iff] at e
    have e' : xs.findIdx? (fun l => decide (key ≤ l.1)) = none := by rw [List.findIdx?_eq_none_iff]; exact e
    exact ⟨by unfold lat; rw [e']; rfl, fun x hx => by have := e x hx; simp at this; omega⟩
  | some m =>
    left
    have e' : lat xs key = m := by unfold lat; rw [e]; rfl
    rw [List.findIdx?_eq_some_iff_getElem] at e
    obtain ⟨hm, h1, h2⟩ := e
    rw [e']
    refine ⟨xs[m], List.getElem?_eq_getElem hm, by simpa using h1, fun j y hj hy => ?_⟩
    have := h2 j hj
    obtain ⟨_, rfl⟩ := List.getElem?_eq_some_iff.1 hy
    simp at this; omega
theorem lat_lt {xs : List Lse} (h : 1 ≤ xs.length) (key : Int) : lat xs key < xs.length := by
  rcases lat_form xs key with ⟨x, h1, _⟩ | ⟨h1, _⟩
  · exact (List.getElem?_eq_some_iff.1 h1).1
  · omega
theorem lof_at {xs : List Lse} (h : 1 ≤ xs.length) (key : Int) : xs[lat xs key]? = some (lof xs key) := by
  have := lat_lt h key
  unfold lof; rw [List.getD_eq_getElem?_getD, List.getElem?_eq_getElem this]; rfl
theorem lof_mem {xs : List Lse} (h : 1 ≤ xs.length) (key : Int) : lof xs key ∈ xs := List.mem_of_getElem? (lof_at h key)
theorem lat_hit {xs : List Lse} {key : Int} {k : Nat} {x : Lse} (h : ∀ (j : Nat) (y : Lse), j < k → xs[j]? = some y → y.1 < key) (hx : xs[k]? = some x) (hk : key ≤ x.1) : lat xs key = k := by
  obtain ⟨hl, rfl⟩ := List.getElem?_eq_some_iff.1 hx
  unfold lat
  have : xs.findIdx? (fun l => decide (key ≤ l.1)) = some k := by
    rw [List.findIdx?_eq_some_iff_getElem]
    refine ⟨hl, by simpa using hk, fun j hj => ?_⟩
    have := h j _ hj (List.getElem?_eq_getElem (by omega))
    simp; omega
  rw [this]; rfl
theorem lat_over {xs : List Lse} {key : Int} (h : ∀ (j : Nat) (y : Lse), xs[j]? = some y → y.1 < key) : lat xs key = 0 := by
  unfold lat
  have : xs.findIdx? (fun l => decide (key ≤ l.1)) = none := by
    rw [List.findIdx?_eq_none_iff]
    intro x hx
    obtain ⟨i, hi, rfl⟩ := List.getElem_of_mem hx
    have := h i _ (List.getElem?_eq_getElem hi)
    simp; omega
  rw [this]; rfl
/-- The lease that ends at a key holds it. -/
theorem lat_end {xs : List Lse} (h : xs.Pairwise (fun a b => a.1 < b.1)) {i : Nat} {x : Lse} (hx : xs[i]? = some x) : lat xs x.1 = i := by
  refine lat_hit (fun j y hj hy => ?_) hx (Int.le_refl _)
  obtain ⟨h1, rfl⟩ := List.getElem?_eq_some_iff.1 hx
  obtain ⟨h2, rfl⟩ := List.getElem?_eq_some_iff.1 hy
  exact List.pairwise_iff_getElem.1 h j i h2 h1 hj
/-- A key is held up to the end of its lease. -/
theorem lat_up {xs : List Lse} (h : xs.Pairwise (fun a b => a.1 < b.1)) (hl : 1 ≤ xs.length) {key k : Int} (h1 : key ≤ k) (h2 : k ≤ (lof xs key).1) : lat xs k = lat xs key := by
  have ha := lof_at hl key
  rcases lat_form xs key with ⟨x, h3, h4, h5⟩ | ⟨h3, h4⟩
  · refine lat_hit (fun j y hj hy => ?_) ha h2
    have := h5 j y hj hy; omega
  · have := h4 _ (lof_mem hl key); omega
theorem end_inj {xs : List Lse} (h : xs.Pairwise (fun a b => a.1 < b.1)) {i j : Nat} {x y : Lse} (hx : xs[i]? = some x) (hy : xs[j]? = some y) (e : x.1 = y.1) : i = j := by
  rw [← lat_end h hx, ← lat_end h hy, e]

/-! ### Counting -/
def cnt (f : Nat → Int) (p : Int) (n : Nat) : Nat := ((List.range n).filter fun k => f k == p).length
theorem cnt_succ (f : Nat → Int) (p : Int) (n : Nat) : cnt f p (n + 1) = cnt f p n + (if f n = p then 1 else 0) := by
  unfold cnt
  rw [List.range_succ, List.filter_append, List.length_append]
  by_cases h : f n = p
  · rw [if_pos h]; simp [h]
  · rw [if_neg h]; simp [h]
theorem cnt_le (f : Nat → Int) (p : Int) (n : Nat) : cnt f p n ≤ n := by
  induction n with
  | zero => exact Nat.le_refl _
  | succ n ih => rw [cnt_succ]; split <;> omega
theorem cnt_pos {f : Nat → Int} {p : Int} {n k : Nat} (hk : k < n) (h : f k = p) : 0 < cnt f p n := by
  unfold cnt
  exact List.length_pos_of_mem (List.mem_filter.2 ⟨List.mem_range.2 hk, by simp [h]⟩)
def sumTo (g : Nat → Nat) : Nat → Nat
  | 0 => 0
  | m + 1 => sumTo g m + g m
theorem sumTo_add (g g' : Nat → Nat) : ∀ m, sumTo (fun p => g p + g' p) m = sumTo g m + sumTo g' m
  | 0 => rfl
  | m + 1 => by simp only [sumTo]; rw [sumTo_add g g' m]; omega
theorem sumTo_zero : ∀ m, sumTo (fun _ => 0) m = 0
  | 0 => rfl
  | m + 1 => by simp only [sumTo]; rw [sumTo_zero m]
theorem sumTo_one (x : Int) : ∀ m : Nat, sumTo (fun p => if x = (p : Int) then 1 else 0) m = if 0 ≤ x ∧ x < (m : Int) then 1 else 0
  | 0 => by simp only [sumTo]; rw [if_neg (by omega)]
  | m + 1 => by
    simp only [sumTo]
    rw [sumTo_one x m]
    by_cases h : x = (m : Int)
    · rw [if_pos h, if_neg (by omega), if_pos (by omega)]
    · rw [if_neg h]
      by_cases h2 : 0 ≤ x ∧ x < (m : Int)
      · rw [if_pos h2, if_pos (by omega)]
      · rw [if_neg h2, if_neg (by omega)]
/-- Every key is counted once. -/
theorem count_all (f : Nat → Int) (m : Nat) : ∀ n : Nat, (∀ k, k < n → 0 ≤ f k ∧ f k < (m : Int)) → sumTo (fun p => cnt f (p : Int) n) m = n
  | 0, _ => by
    have : (fun p : Nat => cnt f (p : Int) 0) = fun _ => 0 := by funext p; simp [cnt]
    rw [this]; exact sumTo_zero m
  | n + 1, h => by
    have : (fun p : Nat => cnt f (p : Int) (n + 1)) = fun p : Nat => cnt f (p : Int) n + (if f n = (p : Int) then 1 else 0) := by funext p; rw [cnt_succ]
    rw [this, sumTo_add, count_all f m n (fun k hk => h k (by omega)), sumTo_one, if_pos (h n (by omega))]
theorem sumTo_le (g : Nat → Nat) (c : Nat) (h : ∀ p, g p ≤ c) : ∀ m, sumTo g m ≤ m * c
  | 0 => Nat.zero_le _
  | m + 1 => by simp only [sumTo]; have := sumTo_le g c h m; have := h m; rw [Nat.succ_mul]; omega

/-! ### Renewing and taking over -/
def rnOk (owner now till : Int) (x : Lse) : Bool := (x.2.1 == owner) && (decide (now ≤ x.2.2) && decide (x.2.2 < till))
def rn1 (owner now till : Int) (x : Lse) : Lse := if rnOk owner now till x = true then (x.1, x.2.1, till) else x
def rnw (xs : List Lse) (owner now till : Int) : List Lse := xs.map (rn1 owner now till)
def rnCnt (xs : List Lse) (owner now till : Int) (k : Nat) : Nat := ((xs.take k).filter (rnOk owner now till)).length
theorem rnCnt_succ {xs : List Lse} {owner now till : Int} {k : Nat} {x : Lse} (h : xs[k]? = some x) : rnCnt xs owner now till (k + 1) = rnCnt xs owner now till k + (if rnOk owner now till x = true then 1 else 0) := by
  unfold rnCnt
  rw [List.take_add_one, h, List.filter_append, List.length_append]
  by_cases h' : rnOk owner now till x = true
  · rw [if_pos h']; simp [h']
  · rw [if_neg h']; simp [h']
theorem rnCnt_le (xs : List Lse) (owner now till : Int) (k : Nat) : rnCnt xs owner now till k ≤ k := by
  unfold rnCnt; exact Nat.le_trans (List.length_filter_le _ _) (by simp; omega)
theorem rn1_not (owner now till : Int) (x : Lse) : rnOk owner now till (rn1 owner now till x) = false := by
  unfold rn1
  by_cases h : rnOk owner now till x = true
  · rw [if_pos h]; unfold rnOk; simp
  · rw [if_neg h]; simpa using h
theorem rnw_len (xs : List Lse) (owner now till : Int) : (rnw xs owner now till).length = xs.length := by simp [rnw]
theorem rnw_twice (xs : List Lse) (owner now till : Int) : rnw (rnw xs owner now till) owner now till = rnw xs owner now till := by
  unfold rnw
  rw [List.map_map]
  refine List.map_congr_left fun x _ => ?_
  have := rn1_not owner now till x
  show rn1 owner now till (rn1 owner now till x) = rn1 owner now till x
  generalize rn1 owner now till x = y at *
  unfold rn1
  rw [if_neg (by simp [this])]
theorem rnw_none (xs : List Lse) (owner now till : Int) (k : Nat) : rnCnt (rnw xs owner now till) owner now till k = 0 := by
  unfold rnCnt rnw
  rw [List.length_eq_zero_iff, List.filter_eq_nil_iff]
  intro x hx
  have := List.mem_of_mem_take hx
  obtain ⟨y, _, rfl⟩ := List.mem_map.1 this
  rw [rn1_not]; simp
theorem rn1_end (owner now till : Int) (x : Lse) : (rn1 owner now till x).1 = x.1 ∧ (rn1 owner now till x).2.1 = x.2.1 := by unfold rn1; split <;> exact ⟨rfl, rfl⟩
theorem rnw_valid {xs : List Lse} {owner now till : Int} (h : lval xs = true) (ht : timeOk till = true) : lval (rnw xs owner now till) = true := by
  rw [lval_iff] at h ⊢
  obtain ⟨h1, h2, h3⟩ := h
  refine ⟨by rw [rnw_len]; exact h1, fun x hx => ?_, ?_⟩
  · unfold rnw at hx
    obtain ⟨y, hy, rfl⟩ := List.mem_map.1 hx
    obtain ⟨a, b, c⟩ := h2 y hy
    obtain ⟨e1, e2⟩ := rn1_end owner now till y
    rw [e1, e2]
    refine ⟨a, b, ?_⟩
    unfold rn1; split
    · exact ht
    · exact c
  · unfold rnw
    rw [List.pairwise_map]
    exact h3.imp fun {a b} hab => by rw [(rn1_end owner now till a).1, (rn1_end owner now till b).1]; exact hab
def seizeT (xs : List Lse) (key to till : Int) : List Lse := xs.set (lat xs key) ((lof xs key).1, to, till)
theorem seize_len (xs : List Lse) (key to till : Int) : (seizeT xs key to till).length = xs.length := by simp [seizeT]
theorem seize_at {xs : List Lse} (h : 1 ≤ xs.length) (key to till : Int) (i : Nat) (hi : i < xs.length) : ((seizeT xs key to till)[i]?).map (·.1) = (xs[i]?).map (·.1) := by
  unfold seizeT
  rw [List.getElem?_set]
  split
  · next e =>
    subst e
    rw [if_pos hi, lof_at h]; rfl
  · rfl
theorem lat_ext {xs ys : List Lse} (hl : xs.length = ys.length) (h : ∀ i, i < xs.length → (xs[i]?).map (·.1) = (ys[i]?).map (·.1)) (key : Int) : lat xs key = lat ys key := by
  have e : xs.map (·.1) = ys.map (·.1) := by
    apply List.ext_getElem?
    intro i
    rw [List.getElem?_map, List.getElem?_map]
    by_cases hi : i < xs.length
    · exact h i hi
    · rw [List.getElem?_eq_none (by omega), List.getElem?_eq_none (by omega)]
  have key_ : ∀ zs : List Lse, zs.findIdx? (fun l => decide (key ≤ l.1)) = (zs.map (·.1)).findIdx? (fun x => decide (key ≤ x)) := by
    intro zs; rw [List.findIdx?_map]; rfl
  unfold lat
  rw [key_, key_, e]
theorem seize_lat {xs : List Lse} (h : 1 ≤ xs.length) (key to till k : Int) : lat (seizeT xs key to till) k = lat xs k :=
  lat_ext (seize_len _ _ _ _) (fun i hi => by rw [seize_len] at hi; exact seize_at h key to till i hi) k
theorem seize_lof {xs : List Lse} (h : 1 ≤ xs.length) (key to till k : Int) : lof (seizeT xs key to till) k = if lat xs k = lat xs key then ((lof xs key).1, to, till) else lof xs k := by
  have h1 : 1 ≤ (seizeT xs key to till).length := by rw [seize_len]; exact h
  have e := lof_at h1 k
  rw [seize_lat h] at e
  unfold seizeT at e
  rw [List.getElem?_set] at e
  by_cases e2 : lat xs k = lat xs key
  · rw [if_pos e2]
    rw [if_pos e2.symm, if_pos (lat_lt h key)] at e
    injection e with e; exact e.symm
  · rw [if_neg e2]
    rw [if_neg (Ne.symm e2), lof_at h] at e
    injection e with e; exact e.symm
theorem seize_valid {xs : List Lse} {key to till : Int} (h : lval xs = true) (hto : pos to = true) (ht : timeOk till = true) : lval (seizeT xs key to till) = true := by
  have hl := (lval_len h).1
  rw [lval_iff] at h ⊢
  obtain ⟨h1, h2, h3⟩ := h
  refine ⟨by rw [seize_len]; exact h1, fun x hx => ?_, ?_⟩
  · unfold seizeT at hx
    rcases List.mem_or_eq_of_mem_set hx with h4 | h4
    · exact h2 x h4
    · subst h4
      exact ⟨(h2 _ (lof_mem hl key)).1, hto, ht⟩
  · have e : (seizeT xs key to till).map (·.1) = xs.map (·.1) := by
      apply List.ext_getElem?
      intro i
      rw [List.getElem?_map, List.getElem?_map]
      by_cases hi : i < xs.length
      · exact seize_at hl key to till i hi
      · rw [List.getElem?_eq_none (by rw [seize_len]; omega), List.getElem?_eq_none (by omega)]
    have p : (xs.map (·.1)).Pairwise (fun a b => a < b) := by rw [List.pairwise_map]; exact h3
    rw [← e, List.pairwise_map] at p
    exact p

/-! ### Merging -/
def mput (out : List Lse) (x : Lse) : List Lse := match out.getLast? with
  | some y => if y.2 = x.2 then out.dropLast ++ [(x.1, y.2)] else out ++ [x]
  | none => out ++ [x]
def mrgTo (xs : List Lse) (k : Nat) : List Lse := (xs.take k).foldl mput []
def mrg (xs : List Lse) : List Lse := mrgTo xs xs.length
theorem mrgTo_succ {xs : List Lse} {k : Nat} {x : Lse} (h : xs[k]? = some x) : mrgTo xs (k + 1) = mput (mrgTo xs k) x := by
  unfold mrgTo; rw [List.take_add_one, h, List.foldl_append]; rfl
theorem mput_nil (x : Lse) : mput [] x = [x] := rfl
theorem mput_same {d : List Lse} {y x : Lse} (h : y.2 = x.2) : mput (d ++ [y]) x = d ++ [(x.1, y.2)] := by unfold mput; simp [h]
theorem mput_other {d : List Lse} {y x : Lse} (h : ¬ y.2 = x.2) : mput (d ++ [y]) x = (d ++ [y]) ++ [x] := by unfold mput; simp [h]
def fnd (xs : List Lse) (key : Int) : Option Lse := xs.find? (fun l => decide (key ≤ l.1))
theorem fnd_append (a b : List Lse) (key : Int) : fnd (a ++ b) key = (fnd a key).or (fnd b key) := by unfold fnd; rw [List.find?_append]
theorem fnd_one (x : Lse) (key : Int) : fnd [x] key = if key ≤ x.1 then some x else none := by
  unfold fnd; by_cases h : key ≤ x.1 <;> simp [h]
theorem lof_fnd {xs : List Lse} (h : 1 ≤ xs.length) (key : Int) : lof xs key = (fnd xs key).getD (xs[0]'(by omega)) := by
  unfold fnd
  rcases lat_form xs key with ⟨x, h1, h2, h3⟩ | ⟨h1, h2⟩
  · have : xs.find? (fun l => decide (key ≤ l.1)) = some x := by
      obtain ⟨hl, hx⟩ := List.getElem?_eq_some_iff.1 h1
      rw [List.find?_eq_some_iff_getElem]
      refine ⟨by simpa using h2, lat xs key, hl, hx, fun j hj => ?_⟩
      have := h3 j _ hj (List.getElem?_eq_getElem (by omega))
      simp; omega
    rw [this]
    unfold lof; rw [List.getD_eq_getElem?_getD, h1]; rfl
  · have : xs.find? (fun l => decide (key ≤ l.1)) = none := by
      rw [List.find?_eq_none]
      intro x hx
      have := h2 x hx
      simp; omega
    rw [this]
    unfold lof; rw [h1, List.getD_eq_getElem?_getD, List.getElem?_eq_getElem (by omega : 0 < xs.length)]; rfl
/-- What merging k leases has made. -/
structure Mrg (xs : List Lse) (k : Nat) (out : List Lse) : Prop where
  last : (out.getLast?).map (fun y => y) = (xs.take k).getLast?
  head : (out[0]?).map (·.2) = ((xs.take k)[0]?).map (·.2)
  same : ∀ key, (fnd out key).map (·.2) = (fnd (xs.take k) key).map (·.2)
  good : ∀ y ∈ out, pos y.1 = true ∧ pos y.2.1 = true ∧ timeOk y.2.2 = true
  asc : out.Pairwise (fun a b => a.1 < b.1)
  diff : ∀ (i : Nat) (a b : Lse), out[i]? = some a → out[i + 1]? = some b → a.2 ≠ b.2
  len : out.length ≤ k
theorem mrg_at {xs : List Lse} (hv : ∀ x ∈ xs, pos x.1 = true ∧ pos x.2.1 = true ∧ timeOk x.2.2 = true) (ha : xs.Pairwise (fun a b => a.1 < b.1)) : ∀ k, k ≤ xs.length → Mrg xs k (mrgTo xs k)
  | 0, _ => ⟨by simp [mrgTo], by simp [mrgTo], fun key => by simp [mrgTo, fnd], fun y hy => by simp [mrgTo] at hy, by simp [mrgTo], fun i a b h => by simp [mrgTo] at h, Nat.le_refl _⟩
  | k + 1, hk => by
    have ih := mrg_at hv ha k (by omega)
    have hx : xs[k]? = some xs[k] := List.getElem?_eq_getElem (by omega)
    have hxv := hv xs[k] (List.getElem_mem _)
    have htk : xs.take (k + 1) = xs.take k ++ [xs[k]] := by rw [List.take_add_one, hx]; rfl
    have hlt : ∀ z ∈ xs.take k, z.1 < xs[k].1 := by
      intro z hz
      have := ha.sublist (List.take_sublist (k + 1) xs)
      rw [htk, List.pairwise_append] at this
      exact this.2.2 z hz _ (by simp)
    rw [mrgTo_succ hx]
    generalize xs[k] = x at *
    generalize hm : mrgTo xs k = out at *
    rcases List.eq_nil_or_concat out with h0 | ⟨d, y, h0⟩
    · subst h0
      have e0 : xs.take k = [] := by
        have := ih.last
        cases e : xs.take k with
        | nil => rfl
        | cons a l =>
          rw [e] at this
          simp at this
          rw [eq_comm, List.getLast?_eq_none_iff] at this
          cases this
      rw [mput_nil]
      refine ⟨by rw [htk, e0]; rfl, by rw [htk, e0]; rfl, fun key => by rw [htk, e0]; rfl, fun y hy => ?_, by simp, fun i a b h1 h2 => ?_, by simp⟩
      · simp at hy; subst hy; exact hxv
      · simp at h2
    · rw [List.concat_eq_append] at h0
      subst h0
      have hy : (xs.take k).getLast? = some y := by have := ih.last; simp at this; exact this.symm
      have hymem : y ∈ xs.take k := List.mem_of_getLast? hy
      have hyx := hlt y hymem
      have hne : xs.take k ≠ [] := by intro e; rw [e] at hymem; cases hymem
      have hd1 : d.Pairwise (fun a b => a.1 < b.1) ∧ ∀ z ∈ d, z.1 < y.1 := by
        have := ih.asc
        rw [List.pairwise_append] at this
        exact ⟨this.1, fun z hz => this.2.2 z hz y (by simp)⟩
      have hyv := ih.good y (by simp)
      have hhead : ((xs.take k ++ [x])[0]?) = (xs.take k)[0]? := by
        rw [List.getElem?_append_left (List.length_pos_iff.2 hne)]
      have hfy : ∀ key, fnd (d ++ [y]) key = (fnd d key).or (if key ≤ y.1 then some y else none) := fun key => by rw [fnd_append, fnd_one]
      by_cases h2 : y.2 = x.2
      · rw [mput_same h2]
        have hxy : (x.1, y.2) = x := by rw [h2]
        refine ⟨?_, ?_, fun key => ?_, fun z hz => ?_, ?_, fun i a b e1 e2 => ?_, ?_⟩
        · rw [htk]; simp [hxy]
        · rw [htk, hhead, ← ih.head]
          rcases d with _ | ⟨d0, d'⟩ <;> rfl
        · rw [htk, fnd_append, fnd_append, fnd_one, fnd_one]
          have := ih.same key
          rw [hfy] at this
          cases e : fnd d key with
          | some z =>
            rw [e] at this
            simp only [Option.some_or, Option.map_some] at this ⊢
            cases e3 : fnd (xs.take k) key with
            | none => rw [e3] at this; cases this
            | some z' => rw [e3] at this; simpa using this
          | none =>
            rw [e] at this
            simp only [Option.none_or] at this ⊢
            by_cases h3 : key ≤ y.1
            · rw [if_pos h3] at this
              cases e3 : fnd (xs.take k) key with
              | none => rw [e3] at this; cases this
              | some z' =>
                rw [e3] at this
                simp only [Option.map_some, Option.some.injEq] at this
                rw [if_pos (by omega)]
                simp [this]
            · rw [if_neg h3] at this
              cases e3 : fnd (xs.take k) key with
              | some z' => rw [e3] at this; cases this
              | none => simp only [Option.none_or]; by_cases h4 : key ≤ x.1 <;> simp [h4, h2]
        · rw [List.mem_append] at hz
          rcases hz with hz | hz
          · exact ih.good z (by simp [hz])
          · simp at hz; subst hz; exact ⟨hxv.1, hyv.2⟩
        · rw [List.pairwise_append]
          exact ⟨hd1.1, by simp, fun z hz w hw => by simp at hw; subst hw; have := hd1.2 z hz; simp; omega⟩
        · have hl : (d ++ [(x.1, y.2)]).length = d.length + 1 := by simp
          have hi : i + 1 < d.length + 1 := by rw [← hl]; exact (List.getElem?_eq_some_iff.1 e2).1
          rw [List.getElem?_append_left (by omega)] at e1
          rcases Nat.lt_or_ge (i + 1) d.length with h5 | h5
          · rw [List.getElem?_append_left h5] at e2
            exact ih.diff i a b (by rw [List.getElem?_append_left (by omega)]; exact e1) (by rw [List.getElem?_append_left h5]; exact e2)
          · have : i + 1 = d.length := by omega
            have e4 : (d ++ [y])[i + 1]? = some y := by rw [this]; simp
            have := ih.diff i a y (by rw [List.getElem?_append_left (by omega)]; exact e1) e4
            have e5 : b = (x.1, y.2) := by
              have h7 : i + 1 = d.length := by omega
              rw [h7] at e2; simp at e2; exact e2.symm
            subst e5; exact this
        · have := ih.len
          simp at this ⊢; omega
      · rw [mput_other h2]
        refine ⟨?_, ?_, fun key => ?_, fun z hz => ?_, ?_, fun i a b e1 e2 => ?_, ?_⟩
        · rw [htk]; simp
        · rw [htk, hhead, ← ih.head, List.getElem?_append_left (by simp)]
        · rw [htk, fnd_append, fnd_append (xs.take k)]
          have := ih.same key
          cases e : fnd (d ++ [y]) key with
          | some z =>
            rw [e] at this
            cases e3 : fnd (xs.take k) key with
            | none => rw [e3] at this; cases this
            | some z' => rw [e3] at this; simpa using this
          | none =>
            rw [e] at this
            cases e3 : fnd (xs.take k) key with
            | some z' => rw [e3] at this; cases this
            | none => rfl
        · rw [List.mem_append] at hz
          rcases hz with hz | hz
          · exact ih.good z hz
          · simp at hz; subst hz; exact hxv
        · rw [List.pairwise_append]
          refine ⟨ih.asc, by simp, fun z hz w hw => ?_⟩
          simp at hw; subst hw
          rw [List.mem_append] at hz
          rcases hz with hz | hz
          · have := hd1.2 z hz; omega
          · simp at hz; subst hz; exact hyx
        · have hl : ((d ++ [y]) ++ [x]).length = d.length + 2 := by simp
          have hi : i + 1 < d.length + 2 := by rw [← hl]; exact (List.getElem?_eq_some_iff.1 e2).1
          rw [List.getElem?_append_left (by simp; omega)] at e1
          rcases Nat.lt_or_ge (i + 1) (d.length + 1) with h5 | h5
          · rw [List.getElem?_append_left (by simp; omega)] at e2
            exact ih.diff i a b e1 e2
          · have h6 : i = d.length := by omega
            subst h6
            have e5 : a = y := by simp at e1; exact e1.symm
            have e6 : b = x := by
              rw [List.getElem?_append_right (by simp)] at e2
              simp at e2; exact e2.symm
            subst e5 e6; exact h2
        · have := ih.len
          simp at this ⊢; omega
theorem mrg_of {xs : List Lse} (h : lval xs = true) : Mrg xs xs.length (mrg xs) := by
  obtain ⟨_, h2, h3⟩ := lval_iff.1 h
  exact mrg_at h2 h3 xs.length (Nat.le_refl _)
theorem mrg_pos {xs : List Lse} (h : lval xs = true) : 1 ≤ (mrg xs).length := by
  have hm := (mrg_of h).last
  have hl := (lval_len h).1
  rw [List.take_length] at hm
  rcases Nat.eq_zero_or_pos (mrg xs).length with h0 | h0
  · rw [List.eq_nil_of_length_eq_zero h0] at hm
    simp at hm
    rw [eq_comm, List.getLast?_eq_none_iff] at hm
    rw [hm] at hl; simp at hl
  · exact h0
theorem mrg_valid {xs : List Lse} (h : lval xs = true) : lval (mrg xs) = true := by
  have hm := mrg_of h
  have := (lval_len h).2
  exact lval_iff.2 ⟨⟨mrg_pos h, Nat.le_trans hm.len this⟩, hm.good, hm.asc⟩
/-- Merging changes no holder. -/
theorem mrg_holder {xs : List Lse} (h : lval xs = true) (key : Int) : (lof (mrg xs) key).2 = (lof xs key).2 := by
  have hm := mrg_of h
  have h1 := mrg_pos h
  have h2 := (lval_len h).1
  have hs := hm.same key
  have hh := hm.head
  rw [List.take_length] at hs hh
  rw [List.getElem?_eq_getElem (by omega : 0 < (mrg xs).length), List.getElem?_eq_getElem (by omega : 0 < xs.length)] at hh
  simp only [Option.map_some, Option.some.injEq] at hh
  rw [lof_fnd h1, lof_fnd h2]
  cases e : fnd (mrg xs) key with
  | none =>
    rw [e] at hs
    cases e2 : fnd xs key with
    | none => exact hh
    | some z => rw [e2] at hs; cases hs
  | some z =>
    rw [e] at hs
    cases e2 : fnd xs key with
    | none => rw [e2] at hs; cases hs
    | some z' => rw [e2] at hs; simpa using hs
/-- Leases of which no two neighbours are alike stay as they are. -/
theorem mrg_fix {ys : List Lse} (h : ∀ (i : Nat) (a b : Lse), ys[i]? = some a → ys[i + 1]? = some b → a.2 ≠ b.2) : ∀ k, k ≤ ys.length → mrgTo ys k = ys.take k
  | 0, _ => by simp [mrgTo]
  | k + 1, hk => by
    have ih := mrg_fix h k (by omega)
    have hx : ys[k]? = some ys[k] := List.getElem?_eq_getElem (by omega)
    rw [mrgTo_succ hx, ih, List.take_add_one, hx]
    rcases k with _ | j
    · rfl
    · have hy : ys[j]? = some ys[j] := List.getElem?_eq_getElem (by omega)
      have e : ys.take (j + 1) = ys.take j ++ [ys[j]] := by rw [List.take_add_one, hy]; rfl
      rw [e, mput_other (h j _ _ hy hx)]; rfl
theorem mrg_twice {xs : List Lse} (h : lval xs = true) : mrg (mrg xs) = mrg xs := by
  have := mrg_fix (mrg_of h).diff (mrg xs).length (Nat.le_refl _)
  rw [List.take_length] at this
  exact this
end Go.Proofs.YtkjolmbcafonaaaDoor
