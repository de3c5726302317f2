/- Plain laws of ranges of keys: the nodes that hold some positions. No program in sight. -/
import Derived.Test.YtkepfmekghbkeaaPlainL
namespace Go.Proofs.Ytkepfmekghbkeaa
set_option linter.unusedVariables false
def rngPut (out : List Int) (n : Int) : List Int := if out.any (fun x => x == n) = true then out else out ++ [n]
theorem rngPut_in {out : List Int} {n : Int} (h : n ∈ out) : rngPut out n = out := by
  unfold rngPut; rw [if_pos (List.any_eq_true.2 ⟨n, h, by simp⟩)]
theorem rngPut_out {out : List Int} {n : Int} (h : n ∉ out) : rngPut out n = out ++ [n] := by
  unfold rngPut; rw [if_neg]
  rw [List.any_eq_true]; rintro ⟨x, hx, e⟩
  rw [beq_iff_eq] at e; subst e; exact h hx
/-- The holder of the key that lies s behind a. -/
def hold (xs : List Int) (a : Int) (s : Nat) : Int := nxt xs ((a + (s : Int)) % 64)
def rngTo (xs : List Int) (a : Int) (k : Nat) : List Int := (List.range k).foldl (fun out s => rngPut out (hold xs a s)) []
theorem rngTo_succ (xs : List Int) (a : Int) (k : Nat) : rngTo xs a (k + 1) = rngPut (rngTo xs a k) (hold xs a k) := by
  unfold rngTo; rw [List.range_succ, List.foldl_append]; rfl
theorem rng_mem {xs : List Int} {a : Int} (x : Int) : ∀ k, x ∈ rngTo xs a k ↔ ∃ s, s < k ∧ hold xs a s = x
  | 0 => by simp [rngTo]
  | k + 1 => by
    have ih := rng_mem (xs := xs) (a := a) x k
    rw [rngTo_succ]
    have step : x ∈ rngPut (rngTo xs a k) (hold xs a k) ↔ x ∈ rngTo xs a k ∨ x = hold xs a k := by
      by_cases h : hold xs a k ∈ rngTo xs a k
      · rw [rngPut_in h]
        exact ⟨fun h1 => .inl h1, fun h1 => by rcases h1 with h1 | h1; · exact h1
                                               · subst h1; exact h⟩
      · rw [rngPut_out h]; simp
    rw [step, ih]
    constructor
    · rintro (⟨s, h1, h2⟩ | h1)
      · exact ⟨s, by omega, h2⟩
      · exact ⟨k, by omega, h1.symm⟩
    · rintro ⟨s, h1, h2⟩
      rcases Nat.lt_or_ge s k with h3 | h3
      · exact .inl ⟨s, h3, h2⟩
      · have : s = k := by omega
        subst this; exact .inr h2.symm
theorem rng_nodup (xs : List Int) (a : Int) : ∀ k, (rngTo xs a k).Nodup
  | 0 => by simp [rngTo]
  | k + 1 => by
    have ih := rng_nodup xs a k
    rw [rngTo_succ]
    by_cases h : hold xs a k ∈ rngTo xs a k
    · rw [rngPut_in h]; exact ih
    · rw [rngPut_out h]
      rw [List.nodup_append]
      refine ⟨ih, by simp, fun x hx y hy => ?_⟩
      simp at hy; subst hy
      intro e; subst e; exact h hx
theorem rng_stay {xs : List Int} {a : Int} (t : Nat) : ∀ u, t ≤ u → (∀ s, t ≤ s → s < u → hold xs a s ∈ rngTo xs a t) → rngTo xs a u = rngTo xs a t
  | 0, h, _ => by have : t = 0 := by omega
                  subst this; rfl
  | u + 1, h, hs => by
    rcases Nat.lt_or_ge u t with h1 | h1
    · have : t = u + 1 := by omega
      subst this; rfl
    · have ih := rng_stay (xs := xs) (a := a) t u h1 (fun s s1 s2 => hs s s1 (by omega))
      rw [rngTo_succ, ih, rngPut_in (hs u h1 (by omega))]
theorem rng_one {xs : List Int} {a n : Int} {t u : Nat} (htu : t < u) (hs : ∀ s, t ≤ s → s < u → hold xs a s = n) (hn : n ∉ rngTo xs a t) : rngTo xs a u = rngTo xs a t ++ [n] := by
  have h1 : rngTo xs a (t + 1) = rngTo xs a t ++ [n] := by rw [rngTo_succ, hs t (Nat.le_refl _) htu, rngPut_out hn]
  rw [← h1]
  refine rng_stay (t + 1) u htu (fun s s1 s2 => ?_)
  rw [hs s (by omega) s2, h1]; simp
theorem hold_pos (a : Int) (s : Nat) : pos ((a + (s : Int)) % 64) = true := pos_iff.2 (by omega)
theorem hold_mem {xs : List Int} (h : nval xs = true) (a : Int) (s : Nat) : hold xs a s ∈ xs := (nxt_near h (hold_pos a s)).1
theorem rng_sub {xs : List Int} (h : nval xs = true) (a : Int) (k : Nat) : ∀ x ∈ rngTo xs a k, x ∈ xs := by
  intro x hx
  obtain ⟨s, _, e⟩ := (rng_mem x k).1 hx
  subst e; exact hold_mem h a s
theorem nodes_nodup {xs : List Int} (h : nval xs = true) : xs.Nodup := ((asc_pairs xs).1 (nval_asc h)).2.imp (fun h => by omega)
theorem rng_len {xs : List Int} (h : nval xs = true) (a : Int) (k : Nat) : (rngTo xs a k).length ≤ 10 :=
  Nat.le_trans (nodup_len _ _ (rng_nodup xs a k) (rng_sub h a k)) (nval_len h).2
/-- A node is the holder of its own position. -/
theorem hold_self {xs : List Int} (h : nval xs = true) {a m : Int} (ha : pos a = true) (hm : m ∈ xs) : hold xs a (dst a m).toNat = m := by
  have h1 := pos_iff.1 ha
  have h2 := pos_iff.1 (node_pos h hm)
  have e : (a + ((dst a m).toNat : Int)) % 64 = m := by unfold dst; omega
  unfold hold; rw [e]; exact owner_self h hm
/-- What the reference's loop knows: the nodes so far hold the keys up to t, and none of them lies at t or behind. -/
def RngAt (xs : List Int) (a : Int) (t : Nat) (out : List Int) : Prop := out = rngTo xs a t ∧ ∀ o ∈ out, dst a o < (t : Int)
theorem rngAt_zero (xs : List Int) (a : Int) : RngAt xs a 0 [] := ⟨rfl, fun o ho => by simp at ho⟩
theorem rngAt_all {xs : List Int} (h : nval xs = true) {a : Int} {t : Nat} {out : List Int} (hr : RngAt xs a t out) (hl : xs.length ≤ out.length) (u : Nat) (htu : t ≤ u) : rngTo xs a u = out := by
  obtain ⟨rfl, h2⟩ := hr
  refine rng_stay t u htu (fun s s1 s2 => ?_)
  refine Classical.byContradiction fun hc => ?_
  have h3 := nodup_len (hold xs a s :: rngTo xs a t) xs (List.nodup_cons.2 ⟨hc, rng_nodup xs a t⟩) (fun x hx => by
    rcases List.mem_cons.1 hx with h1 | h1
    · subst h1; exact hold_mem h a s
    · exact rng_sub h a t x h1)
  simp only [List.length_cons] at h3; omega
/-- One round: the holder of key t is new; it holds the keys from t up to itself. -/
theorem rngAt_next {xs : List Int} (h : nval xs = true) {a : Int} (ha : pos a = true) {t : Nat} {out : List Int} (hr : RngAt xs a t out) (ht : t < 64) (hl : out.length < xs.length) :
    (t : Int) ≤ dst a (hold xs a t) ∧ (∀ u : Nat, t < u → (u : Int) ≤ dst a (hold xs a t) + 1 → rngTo xs a u = out ++ [hold xs a t]) ∧ RngAt xs a (dst a (hold xs a t) + 1).toNat (out ++ [hold xs a t]) := by
  obtain ⟨rfl, h2⟩ := hr
  obtain ⟨m, hm, hmo⟩ : ∃ m, m ∈ xs ∧ m ∉ rngTo xs a t := by
    refine Classical.byContradiction fun hc => ?_
    have := nodup_len xs (rngTo xs a t) (nodes_nodup h) (fun x hx => Classical.byContradiction fun hx' => hc ⟨x, hx, hx'⟩)
    omega
  have hap := pos_iff.1 ha
  have hmp := pos_iff.1 (node_pos h hm)
  have hmt : (t : Int) ≤ dst a m := by
    refine Classical.byContradiction fun hc => hmo ?_
    have hd := dst_bd a m
    exact (rng_mem m t).2 ⟨(dst a m).toNat, by omega, hold_self h ha hm⟩
  obtain ⟨n1, n2⟩ := nxt_near h (hold_pos a t)
  have hn : hold xs a t = nxt xs ((a + (t : Int)) % 64) := rfl
  rw [← hn] at n1 n2
  have hnp := pos_iff.1 (node_pos h n1)
  have e1 := n2 _ hm
  have hge : (t : Int) ≤ dst a (hold xs a t) := by
    generalize hold xs a t = n at *
    unfold dst at *; omega
  have hall : ∀ s : Nat, t ≤ s → (s : Int) ≤ dst a (hold xs a t) → hold xs a s = hold xs a t := by
    intro s s1 s2
    obtain ⟨q1, q2⟩ := nxt_near h (hold_pos a s)
    have hq : hold xs a s = nxt xs ((a + (s : Int)) % 64) := rfl
    rw [← hq] at q1 q2
    have hqp := pos_iff.1 (node_pos h q1)
    have e2 := q2 _ n1
    have e3 := n2 _ q1
    generalize hold xs a t = n at *
    generalize hold xs a s = q at *
    unfold dst at *; omega
  have hno : hold xs a t ∉ rngTo xs a t := fun hc => by have := h2 _ hc; omega
  have hb := dst_bd a (hold xs a t)
  have hone : ∀ u : Nat, t < u → (u : Int) ≤ dst a (hold xs a t) + 1 → rngTo xs a u = rngTo xs a t ++ [hold xs a t] :=
    fun u u1 u2 => rng_one u1 (fun s s1 s2 => hall s s1 (by omega)) hno
  refine ⟨hge, hone, (hone _ (by omega) (by omega)).symm, fun o ho => ?_⟩
  rw [List.mem_append] at ho
  rcases ho with ho | ho
  · have := h2 o ho; omega
  · simp at ho; subst ho; omega
def lrng (xs : List Int) (a b : Int) : List Int := if nval xs = true ∧ pos a = true ∧ pos b = true then rngTo xs a (dst a b + 1).toNat else []
theorem rng_head {xs : List Int} {a : Int} (k : Nat) : (rngTo xs a (k + 1))[0]? = some (hold xs a 0) := by
  induction k with
  | zero => rw [rngTo_succ]; simp [rngTo, rngPut]
  | succ k ih =>
    rw [rngTo_succ]
    generalize rngTo xs a (k + 1) = l at *
    unfold rngPut
    split
    · exact ih
    · rw [List.getElem?_append_left (List.getElem?_eq_some_iff.1 ih).1]; exact ih
theorem hold_zero {xs : List Int} {a : Int} (ha : pos a = true) : hold xs a 0 = nxt xs a := by
  have := pos_iff.1 ha
  unfold hold; rw [show (a + ((0 : Nat) : Int)) % 64 = a from by omega]
theorem rng_single {xs : List Int} {a : Int} (ha : pos a = true) : rngTo xs a 1 = [nxt xs a] := by
  rw [rngTo_succ, hold_zero ha]; simp [rngTo, rngPut]
end Go.Proofs.Ytkepfmekghbkeaa
