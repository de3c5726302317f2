/- Slices of structs of three integers (Lease, Replica): words for memory; the laws' helpers toLease, eqLease, toLeaseS, eqLeaseS, szLeaseS. -/
import Derived.Test.YtkjolmbcafonaaaDoorPos
import Derived.Maps.AppendAt
import Derived.Deep.RegionWith
namespace Go.Proofs.YtkjolmbcafonaaaDoor
open Go.RowKit
set_option maxHeartbeats 400000
set_option linter.unusedVariables false
abbrev Tri := Int × Int × Int
/-- A slice's address under which the structs xs lie, below block B. -/
def TrisAt (w : World) (B : Nat) (A : Option Addr) (xs : List Tri) : Prop :=
  ∀ k, k < xs.length → ∃ (b off : Nat) (x y z : Int), A = some ⟨b, off, none⟩ ∧ b < B ∧ xs[k]? = some (x, y, z) ∧ w.cell? ⟨b, off + k * 3, none⟩ = some (.int .i64 x) ∧ w.cell? ⟨b, off + k * 3 + 1, none⟩ = some (.int .i64 y) ∧ w.cell? ⟨b, off + k * 3 + 2, none⟩ = some (.int .i64 z)
/-- The cells of structs, one behind the other. -/
def tcells (t : Tri) : List Value := [.int .i64 t.1, .int .i64 t.2.1, .int .i64 t.2.2]
def flat (xs : List Tri) : List Value := xs.flatMap tcells
theorem flat_len (xs : List Tri) : (flat xs).length = xs.length * 3 := by
  induction xs with
  | nil => rfl
  | cons a l ih => unfold flat at ih ⊢; rw [List.flatMap_cons, List.length_append, ih, List.length_cons]; simp [tcells]; omega
theorem flat_at (xs : List Tri) : ∀ (k : Nat) (t : Tri), xs[k]? = some t → (flat xs)[k * 3]? = some (.int .i64 t.1) ∧ (flat xs)[k * 3 + 1]? = some (.int .i64 t.2.1) ∧ (flat xs)[k * 3 + 2]? = some (.int .i64 t.2.2) := by
  induction xs with
  | nil => intro k t h; simp at h
  | cons a l ih =>
    intro k t h
    have e : flat (a :: l) = tcells a ++ flat l := by unfold flat; rw [List.flatMap_cons]
    rw [e]
    rcases k with _ | k
    · simp at h; subst h; exact ⟨rfl, rfl, rfl⟩
    · have := ih k t (by simpa using h)
      have hl : (tcells a).length = 3 := rfl
      rw [List.getElem?_append_right (by rw [hl]; omega), List.getElem?_append_right (by rw [hl]; omega), List.getElem?_append_right (by rw [hl]; omega), hl,
        show (k + 1) * 3 - 3 = k * 3 from by omega, show (k + 1) * 3 + 1 - 3 = k * 3 + 1 from by omega, show (k + 1) * 3 + 2 - 3 = k * 3 + 2 from by omega]
      exact this
theorem flat_append (xs ys : List Tri) : flat (xs ++ ys) = flat xs ++ flat ys := by unfold flat; rw [List.flatMap_append]
theorem flat_one (t : Tri) : flat [t] = tcells t := by simp [flat]

/-- A row of structs of the call's own: '.slice A xs.length c'. -/
def OwnT (w : World) (base : Nat) (A : Option Addr) (c : Nat) (xs : List Tri) : Prop :=
  w.ownsRow base 34 3 (.slice A xs.length c) xs.length (flat xs)
theorem OwnT.form {w : World} {base : Nat} {A : Option Addr} {c : Nat} {xs : List Tri} (h : OwnT w base A c xs) : (A = none ∧ c = 0 ∧ xs = []) ∨ ∃ g, A = some ⟨g, 0, none⟩ ∧ base ≤ g ∧ g < w.heap.size := by
  rcases h.2 with ⟨hv, h0⟩ | ⟨g, cap, cur, hv, hb, hg, _⟩
  · injection hv with h1 h2 h3
    exact .inl ⟨h1, h3, List.eq_nil_of_length_eq_zero h0⟩
  · injection hv with h1 h2 h3
    exact .inr ⟨g, h1, hb, (Array.getElem?_eq_some_iff.1 hg).1⟩
theorem OwnT.tris {w : World} {base : Nat} {A : Option Addr} {c : Nat} {xs : List Tri} (h : OwnT w base A c xs) : TrisAt w w.heap.size A xs := by
  intro k hk
  rcases h.form with ⟨_, _, h3⟩ | ⟨g, rfl, _, hlt⟩
  · subst h3; simp at hk
  · obtain ⟨f1, f2, f3⟩ := flat_at xs k xs[k] (List.getElem?_eq_getElem hk)
    have hc : ∀ j u, (flat xs)[j]? = some u → w.cell? ⟨g, j, none⟩ = some u := fun j u hu => by
      have := World.ownsRow.cells h (g := g) rfl j u hu
      have e : (⟨g, 0, none⟩ : Addr).add j = ⟨g, j, none⟩ := by unfold Addr.add; split <;> simp_all
      rwa [e] at this
    exact ⟨g, 0, _, _, _, rfl, hlt, List.getElem?_eq_getElem hk, by rw [Nat.zero_add]; exact hc _ _ f1, by rw [Nat.zero_add]; exact hc _ _ f2, by rw [Nat.zero_add]; exact hc _ _ f3⟩
theorem TrisAt.keep {w w' : World} {B : Nat} {A : Option Addr} {xs : List Tri} (h : TrisAt w B A xs) (hk : ∀ p : Addr, p.block < B → w'.cell? p = w.cell? p) : TrisAt w' B A xs := by
  intro k hlt
  obtain ⟨b, off, x, y, z, e, hb, hx, c1, c2, c3⟩ := h k hlt
  exact ⟨b, off, x, y, z, e, hb, hx, (hk _ hb).trans c1, (hk _ hb).trans c2, (hk _ hb).trans c3⟩
theorem TrisAt.below {w w' : World} {B : Nat} {A : Option Addr} {xs : List Tri} (h : TrisAt w B A xs) (hb : Below B w w') : TrisAt w' B A xs := h.keep fun _ hp => hb.cell hp
theorem TrisAt.drewN {w : World} {B : Nat} {A : Option Addr} {xs : List Tri} (h : TrisAt w B A xs) (n : Nat) : TrisAt (w.drewN n) B A xs := h
theorem OwnT.below {w w' : World} {base B : Nat} {A : Option Addr} {c : Nat} {xs : List Tri} (h : OwnT w base A c xs) (hb : Below B w w') (hB : w.heap.size ≤ B) : OwnT w' base A c xs :=
  World.ownsRow.kept (row := some B) h ⟨hb.os, hb.tape, hb.output, hb.size, fun k hk _ => hb.block k (by omega)⟩
    (.inr fun e => by have := (World.ownsRow.lt h _ e).2; omega)
theorem OwnT.base {w : World} {base base' : Nat} {A : Option Addr} {c : Nat} {xs : List Tri} (h : OwnT w base A c xs) (hB : base' ≤ base) : OwnT w base' A c xs := by
  refine ⟨h.1, ?_⟩
  rcases h.2 with h2 | ⟨g, cap, cur, hv, hg, r⟩
  · exact .inl h2
  · exact .inr ⟨g, cap, cur, hv, by omega, r⟩
/-- The row in block g while it is being filled: the first k structs are there. -/
def FillT (w : World) (g n : Nat) (xs : List Tri) (k : Nat) : Prop :=
  ∃ cs : List Value, w.ownsRow g 34 3 (.slice (some ⟨g, 0, none⟩) n n) n cs ∧ cs.take (k * 3) = flat (xs.take k)
theorem FillT.cell {w : World} {g n k : Nat} {xs : List Tri} (h : FillT w g n xs k) (j : Nat) (hj : j < n * 3) : ∃ v, w.cell? ⟨g, j, none⟩ = some v := by
  obtain ⟨cs, hown, _⟩ := h
  have hl : cs.length = n * 3 := hown.1
  exact ⟨cs[j]'(by omega), by rw [World.ownsRow.cellAt hown j hj]; exact List.getElem?_eq_getElem (by omega)⟩
theorem FillT.free {w : World} {g n k : Nat} {xs : List Tri} (h : FillT w g n xs k) (j : Nat) : w.frozen? ⟨g, j, none⟩ = false := by
  obtain ⟨cs, hown, _⟩ := h
  exact World.ownsRow.frozenAt hown j
theorem take_set3 (cs : List Value) (m : Nat) (a b c : Value) (h : m + 3 ≤ cs.length) : (((cs.set m a).set (m + 1) b).set (m + 2) c).take (m + 3) = cs.take m ++ [a, b, c] := by
  apply List.ext_getElem?
  intro i
  by_cases h1 : i < m
  · rw [List.getElem?_take, if_pos (by omega), List.getElem?_append_left (by simp; omega), List.getElem?_take, if_pos h1]
    rw [List.getElem?_set_ne (by omega), List.getElem?_set_ne (by omega), List.getElem?_set_ne (by omega)]
  · have hm : (cs.take m).length = m := by simp; omega
    rw [List.getElem?_append_right (by omega), hm, List.getElem?_take]
    rcases (by omega : i = m ∨ i = m + 1 ∨ i = m + 2 ∨ m + 3 ≤ i) with h2 | h2 | h2 | h2
    · subst h2
      rw [if_pos (by omega), List.getElem?_set_ne (by omega), List.getElem?_set_ne (by omega), List.getElem?_set_self (by omega), Nat.sub_self]; rfl
    · subst h2
      rw [if_pos (by omega), List.getElem?_set_ne (by omega), List.getElem?_set_self (by simp; omega), show m + 1 - m = 1 from by omega]; rfl
    · subst h2
      rw [if_pos (by omega), List.getElem?_set_self (by simp; omega), show m + 2 - m = 2 from by omega]; rfl
    · rw [if_neg (by omega), List.getElem?_eq_none (by simp; omega)]
theorem FillT.step {w : World} {g n k : Nat} {xs : List Tri} (h : FillT w g n xs k) (hk : k < n) {x y z : Int} (hx : xs[k]? = some (x, y, z)) :
    FillT (((w.setCell ⟨g, k * 3, none⟩ (.int .i64 x)).setCell ⟨g, k * 3 + 1, none⟩ (.int .i64 y)).setCell ⟨g, k * 3 + 2, none⟩ (.int .i64 z)) g n xs (k + 1) := by
  obtain ⟨cs, hown, ht⟩ := h
  have hl : cs.length = n * 3 := hown.1
  refine ⟨_, (World.ownsRow.stored (World.ownsRow.stored (World.ownsRow.stored hown _ _).1 _ _).1 _ _).1, ?_⟩
  rw [show (k + 1) * 3 = k * 3 + 3 from by omega, take_set3 _ _ _ _ _ (by omega), ht, List.take_add_one, hx, flat_append]
  rfl
theorem FillT.keep {w w' : World} {g n k : Nat} {xs : List Tri} (h : FillT w g n xs k) (hb : Below w.heap.size w w') : FillT w' g n xs k := by
  obtain ⟨cs, hown, ht⟩ := h
  exact ⟨cs, World.ownsRow.kept (row := some w.heap.size) hown ⟨hb.os, hb.tape, hb.output, hb.size, fun k hk _ => hb.block k hk⟩
    (.inr fun e => by have := (World.ownsRow.lt hown _ e).2; omega), ht⟩
theorem FillT.all {w : World} {g : Nat} {xs : List Tri} (h : FillT w g xs.length xs xs.length) : OwnT w g (some ⟨g, 0, none⟩) xs.length xs := by
  obtain ⟨cs, hown, ht⟩ := h
  have hl : cs.length = xs.length * 3 := hown.1
  rw [List.take_of_length_le (by omega), List.take_of_length_le (by omega)] at ht
  unfold OwnT
  rw [← ht]; exact hown
end Go.Proofs.YtkjolmbcafonaaaDoor
