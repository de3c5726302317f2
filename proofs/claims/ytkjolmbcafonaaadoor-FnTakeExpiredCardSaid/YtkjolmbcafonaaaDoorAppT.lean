/- append on rows of structs of the call's own: at a plain operation and at a step of a region that draws its order; a field of such a row is written. -/
import Derived.Test.YtkjolmbcafonaaaDoorTri
import Derived.Maps.AppendAt
import Derived.Deep.RegionLaw
namespace Go.Proofs.YtkjolmbcafonaaaDoor
open Go.RowKit
set_option maxHeartbeats 400000
set_option linter.unusedVariables false
theorem TrisAt.more {w : World} {B B' : Nat} {A : Option Addr} {xs : List Tri} (h : TrisAt w B A xs) (hB : B ≤ B') : TrisAt w B' A xs := by
  intro k hlt
  obtain ⟨b, off, x, y, z, e, hb, r⟩ := h k hlt
  exact ⟨b, off, x, y, z, e, by omega, r⟩
theorem OwnT.grown {w w' : World} {base R : Nat} {A : Option Addr} {c : Nat} {xs : List Tri} (h : OwnT w base A c xs) (hg : w.grownBy w' (some R)) (hR : R < base) : OwnT w' base A c xs :=
  World.ownsRow.kept h hg (by
    rcases e : (Value.slice A xs.length c).ownBlock with _ | k
    · exact .inl rfl
    · exact .inr (fun e' => by injection e' with e'; have := (World.ownsRow.lt h k e).1; omega))
theorem OwnT.alloc {w : World} {base : Nat} {A : Option Addr} {c : Nat} {xs : List Tri} (h : OwnT w base A c xs) (o : Obj) : OwnT (w.alloc o) base A c xs := World.ownsRow.alloc h o
theorem OwnT.drewN {w : World} {base : Nat} {A : Option Addr} {c : Nat} {xs : List Tri} (h : OwnT w base A c xs) (n : Nat) : OwnT (w.drewN n) base A c xs := h
theorem OwnT.empty (w : World) {base : Nat} (hb : base ≤ w.heap.size) : OwnT (w.alloc (.cells #[] 34)) base (some ⟨w.heap.size, 0, none⟩) 0 [] :=
  World.ownsRow_lit w #[] 0 hb (by unfold maxLen; omega) (by simp)
theorem OwnT.none_ (w : World) (base : Nat) : OwnT w base none 0 [] := World.ownsRow_nil w base _ 3
theorem OwnT.row {w : World} {base : Nat} {A : Option Addr} {c : Nat} {xs : List Tri} (h : OwnT w base A c xs) : ∀ k, A.map (·.block) = some k → base ≤ k := by
  intro k hk
  rcases h.form with ⟨h1, _⟩ | ⟨g, h1, h2, _⟩
  · subst h1; cases hk
  · subst h1; simp at hk; omega
theorem OwnT.block {w : World} {base g c : Nat} {o : Nat} {s : Option Nat} {xs : List Tri} (h : OwnT w base (some ⟨g, 0, none⟩) c xs) : base ≤ g ∧ g < w.heap.size := by
  rcases h.form with ⟨h1, _⟩ | ⟨g', h1, h2, h3⟩
  · cases h1
  · injection h1 with h1; injection h1 with h1; subst h1; exact ⟨h2, h3⟩
theorem OwnT.some_ {w : World} {base : Nat} {A : Option Addr} {c : Nat} {xs : List Tri} (h : OwnT w base A c xs) (hn : 0 < xs.length) : ∃ g, A = some ⟨g, 0, none⟩ := by
  rcases h.form with ⟨h1, _, h3⟩ | ⟨g, h1, h2, _⟩
  · subst h3; simp at hn
  · exact ⟨g, h1⟩
theorem OwnT.len {w : World} {base : Nat} {A : Option Addr} {c : Nat} {xs : List Tri} (h : OwnT w base A c xs) : xs.length ≤ c ∧ c ≤ maxLen := by
  rcases h.2 with ⟨hv, h2⟩ | ⟨g, cap, cur, hv, hg, _, h3, h4, _⟩
  · injection hv with _ _ h5; unfold maxLen; omega
  · injection hv with _ _ h5; omega
theorem addT_at (g k j : Nat) : (⟨g, k, none⟩ : Addr).add j = ⟨g, k + j, none⟩ := by unfold Addr.add; split <;> simp_all
theorem OwnT.cells {w : World} {base g : Nat} {c : Nat} {xs : List Tri} (h : OwnT w base (some ⟨g, 0, none⟩) c xs) : ∀ j u, (flat xs)[j]? = some u → w.cell? ⟨g, j, none⟩ = some u :=
  fun j u hu => by have := World.ownsRow.cells h (g := g) rfl j u hu; rwa [addT_at, Nat.zero_add] at this
/-- The three cells of a struct of the row, and that they may be written. -/
theorem OwnT.at_ {w : World} {base g : Nat} {c : Nat} {xs : List Tri} (h : OwnT w base (some ⟨g, 0, none⟩) c xs) {k : Nat} {x : Tri} (hx : xs[k]? = some x) : w.cell? ⟨g, k * 3, none⟩ = some (.int .i64 x.1) ∧ w.cell? ⟨g, k * 3 + 1, none⟩ = some (.int .i64 x.2.1) ∧ w.cell? ⟨g, k * 3 + 2, none⟩ = some (.int .i64 x.2.2) := by
  obtain ⟨f1, f2, f3⟩ := flat_at xs k x hx
  exact ⟨h.cells _ _ f1, h.cells _ _ f2, h.cells _ _ f3⟩
theorem OwnT.free {w : World} {base g c : Nat} {xs : List Tri} (h : OwnT w base (some ⟨g, 0, none⟩) c xs) (j : Nat) : w.frozen? ⟨g, j, none⟩ = false := World.ownsRow.frozenAt h j
theorem flat_get {xs : List Tri} {j : Nat} {u : Value} (h : (flat xs)[j]? = some u) : ∃ (k : Nat) (t : Tri), xs[k]? = some t ∧ ((j = k * 3 ∧ u = .int .i64 t.1) ∨ (j = k * 3 + 1 ∧ u = .int .i64 t.2.1) ∨ (j = k * 3 + 2 ∧ u = .int .i64 t.2.2)) := by
  have hj := (List.getElem?_eq_some_iff.1 h).1
  rw [flat_len] at hj
  have hk : j / 3 < xs.length := by omega
  obtain ⟨f1, f2, f3⟩ := flat_at xs (j / 3) _ (List.getElem?_eq_getElem hk)
  refine ⟨j / 3, _, List.getElem?_eq_getElem hk, ?_⟩
  rcases (by omega : j = j / 3 * 3 ∨ j = j / 3 * 3 + 1 ∨ j = j / 3 * 3 + 2) with e | e | e
  · rw [← e] at f1; rw [h] at f1; injection f1 with f1; exact .inl ⟨e, f1⟩
  · rw [← e] at f2; rw [h] at f2; injection f2 with f2; exact .inr (.inl ⟨e, f2⟩)
  · rw [← e] at f3; rw [h] at f3; injection f3 with f3; exact .inr (.inr ⟨e, f3⟩)
theorem flat_oneCell (xs : List Tri) : ∀ u ∈ flat xs, u.oneCell' = true := by
  intro u hu
  obtain ⟨j, hj⟩ := List.getElem?_of_mem hu
  obtain ⟨k, t, _, h | h | h⟩ := flat_get hj <;> rw [h.2] <;> rfl
/-- The source of an append: the slice '.slice A m c' reads as the structs ys. -/
def SrcT (w : World) (A : Option Addr) (m : Nat) (ys : List Tri) : Prop := ys.length = m ∧ ∃ ad, A = some ad ∧ ∀ j u, (flat ys)[j]? = some u → w.cell? (ad.add j) = some u
theorem TrisAt.src {w : World} {B : Nat} {A : Option Addr} {xs : List Tri} (h : TrisAt w B A xs) (hn : 0 < xs.length) : SrcT w A xs.length xs := by
  obtain ⟨b, off, x, y, z, e, _⟩ := h 0 hn
  subst e
  refine ⟨rfl, _, rfl, fun j u hu => ?_⟩
  obtain ⟨k, t, hk, hj⟩ := flat_get hu
  obtain ⟨b', off', x', y', z', e', _, hx', c1, c2, c3⟩ := h k (List.getElem?_eq_some_iff.1 hk).1
  injection e' with e'
  injection e' with e1 e2
  subst e1 e2
  rw [hk] at hx'
  injection hx' with hx'
  subst hx'
  rw [addT_at]
  rcases hj with ⟨rfl, rfl⟩ | ⟨rfl, rfl⟩ | ⟨rfl, rfl⟩
  · exact c1
  · rw [← Nat.add_assoc]; exact c2
  · rw [← Nat.add_assoc]; exact c3
theorem SrcT.one_of {w : World} {b : Nat} {x y z : Int} (hh : w.heap[b]? = some (.cells #[.int .i64 x, .int .i64 y, .int .i64 z] 34 (0, 0))) : SrcT w (some ⟨b, 0, none⟩) 1 [(x, y, z)] := by
  refine ⟨rfl, _, rfl, fun j u hj => ?_⟩
  rw [addT_at, Nat.zero_add, cell_of_row _ _ _ _ _ _ hh]
  rw [flat_one] at hj
  simpa [tcells] using hj
theorem triInfo : (Tryd.prog.info? 34).map (fun i => (i.zero, i.size, i.bytes)) = some (some (.agg #[.int .i64 0, .int .i64 0, .int .i64 0]), 3, 24) := by kernel_rfl
theorem app_runT {P : Program} {t : TypeId} (ht : P.underlying t = some (.slice 34)) {i : TypeInfo} (hi : P.info? 34 = some i) (hz : i.zero = some (.agg #[.int .i64 0, .int .i64 0, .int .i64 0])) (hsz : i.size = 3) (hby : i.bytes = 24) (ty : TypeId)
    {w : World} {base : Nat} {A : Option Addr} {c : Nat} {xs : List Tri} (hown : OwnT w base A c xs) {A' : Option Addr} {m c' : Nat} {ys : List Tri} (hsrc : SrcT w A' m ys) (hl : xs.length + ys.length ≤ 1048576) (hb : base ≤ w.heap.size) :
    ∃ A'' c'' w', (Builtin.append_ #[t, t] ty #[.slice A xs.length c, .slice A' m c']).run P w = .ok (.slice A'' (xs ++ ys).length c'') w' ∧ OwnT w' base A'' c'' (xs ++ ys) ∧ w.grownBy w' (A.map (·.block)) ∧
      (A''.map (·.block) = A.map (·.block) ∨ A''.map (·.block) = some w.heap.size) := by
  have hbl : (Value.slice A xs.length c).ownBlock = A.map (·.block) := by cases A <;> rfl
  obtain ⟨hm, ad, rfl, hc⟩ := hsrc
  obtain ⟨v', w', hr, h2, h3, h4, h5⟩ := run_append_own_at (P := P) w base t ty _ i _ 3 24 ht hi hz hsz hby rfl (by omega) _ _ _ hown ad m c' (flat ys) (by rw [flat_len, hm]) hc (flat_oneCell ys) (by unfold maxLen; omega) (by omega) hb
  have hform : ∃ A'' c'', v' = .slice A'' (xs.length + m) c'' := by
    rcases h2.2 with ⟨hv, h0⟩ | ⟨g, cap, cur, hv, _⟩
    · exact ⟨none, 0, by rw [hv, h0]⟩
    · exact ⟨_, _, hv⟩
  obtain ⟨A'', c'', rfl⟩ := hform
  have hl2 : (xs ++ ys).length = xs.length + m := by simp; omega
  have hbl2 : (Value.slice A'' (xs.length + m) c'').ownBlock = A''.map (·.block) := by cases A'' <;> rfl
  rw [hbl, hbl2] at h5
  rw [hbl] at h3
  refine ⟨A'', c'', w', by rw [hl2]; exact hr, ?_, h3, h5⟩
  unfold OwnT
  rw [hl2, flat_append]
  exact h2
section
variable {P : Program} {t : TypeId} {ops : Array Oper} {rest : List Oper} {o : Oper} {a : Act} {K : Act → World → Prop} {Q : Exit → Act → World → Prop} {E : Prop}
theorem wp_appT (ht : P.underlying t = some (.slice 34)) {i : TypeInfo} (hi : P.info? 34 = some i) (hz : i.zero = some (.agg #[.int .i64 0, .int .i64 0, .int .i64 0])) (hsz : i.size = 3) (hby : i.bytes = 24)
    (s x : Operand) (ho : o.op = .call { callee := .builtin .append, args := #[s, x], argTypes := #[t, t] })
    {w : World} {base : Nat} {A : Option Addr} {n c : Nat} {xs : List Tri} (hs : a.eval s = .slice A n c) (hn : n = xs.length) (hown : OwnT w base A c xs) {A' : Option Addr} {m c' : Nat} {ys : List Tri} (hx : a.eval x = .slice A' m c') (hsrc : SrcT w A' m ys) (hl : xs.length + ys.length ≤ 1048576) (hb : base ≤ w.heap.size)
    (h : ∀ A'' c'' w', OwnT w' base A'' c'' (xs ++ ys) → w.grownBy w' (A.map (·.block)) → (A''.map (·.block) = A.map (·.block) ∨ A''.map (·.block) = some w.heap.size) → K (a.put o.dst (.slice A'' (xs ++ ys).length c'')) w') : o.wp P a w K Q := by
  subst hn
  obtain ⟨A'', c'', w', hr, h2, h3, h4⟩ := app_runT (P := P) (c' := c') ht hi hz hsz hby o.type hown hsrc hl hb
  unfold Oper.wp execOp
  simp only [ho, resolve, invoke, builtin, Sem.run_bind, Sem.run_pure, Result.andThen_ok, List.map_toArray, List.map_cons, List.map_nil, hs, hx, hr]
  exact h A'' c'' w' h2 h3 h4
theorem list_appT (hgd : o.guard = none) (ht : P.underlying t = some (.slice 34)) {i : TypeInfo} (hi : P.info? 34 = some i) (hz : i.zero = some (.agg #[.int .i64 0, .int .i64 0, .int .i64 0])) (hsz : i.size = 3) (hby : i.bytes = 24)
    (s x : Operand) (ho : o.op = .call { callee := .builtin .append, args := #[s, x], argTypes := #[t, t] })
    {w : World} {base : Nat} {A : Option Addr} {n c : Nat} {xs : List Tri} (hs : a.eval s = .slice A n c) (hn : n = xs.length) (hown : OwnT w base A c xs) {A' : Option Addr} {m c' : Nat} {ys : List Tri} (hx : a.eval x = .slice A' m c') (hsrc : SrcT w A' m ys) (hl : xs.length + ys.length ≤ 1048576) (hb : base ≤ w.heap.size)
    (h : ∀ A'' c'' w', OwnT w' base A'' c'' (xs ++ ys) → w.grownBy w' (A.map (·.block)) → (A''.map (·.block) = A.map (·.block) ∨ A''.map (·.block) = some w.heap.size) → wpList P ops Q rest (a.put o.dst (.slice A'' (xs ++ ys).length c'')) w') : wpList P ops Q (o :: rest) a w :=
  wpList_plain hgd fun _ hK => wp_appT ht hi hz hsz hby s x ho hs hn hown hx hsrc hl hb fun A'' c'' w' h2 h3 h4 => hK _ _ (h A'' c'' w' h2 h3 h4)
theorem step_appT (hgd : o.guard = none) (ht : P.underlying t = some (.slice 34)) {i : TypeInfo} (hi : P.info? 34 = some i) (hz : i.zero = some (.agg #[.int .i64 0, .int .i64 0, .int .i64 0])) (hsz : i.size = 3) (hby : i.bytes = 24)
    (s x : Operand) (ho : o.op = .call { callee := .builtin .append, args := #[s, x], argTypes := #[t, t] })
    {w : World} {base : Nat} {A : Option Addr} {n c : Nat} {xs : List Tri} (hs : a.eval s = .slice A n c) (hn : n = xs.length) (hown : OwnT w base A c xs) {A' : Option Addr} {m c' : Nat} {ys : List Tri} (hx : a.eval x = .slice A' m c') (hsrc : SrcT w A' m ys) (hl : xs.length + ys.length ≤ 1048576) (hb : base ≤ w.heap.size)
    (h : ∀ A'' c'' w', OwnT w' base A'' c'' (xs ++ ys) → w.grownBy w' (A.map (·.block)) → (A''.map (·.block) = A.map (·.block) ∨ A''.map (·.block) = some w.heap.size) → K (a.put o.dst (.slice A'' (xs ++ ys).length c'')) w') :
    if Region.wanted o (yielded ops a.tmps) = true then Oper.wp P o a w K Q else E := by
  have hw : Region.wanted o (yielded ops a.tmps) = true := by simp [Region.wanted, hgd]
  rw [if_pos hw]
  exact wp_appT ht hi hz hsz hby s x ho hs hn hown hx hsrc hl hb h
end
/-! ### A field is written -/
theorem flat_cons (a : Tri) (l : List Tri) : flat (a :: l) = tcells a ++ flat l := by unfold flat; rw [List.flatMap_cons]
theorem flat_set (xs : List Tri) : ∀ (k f : Nat) (u : Value) (t t' : Tri), xs[k]? = some t → f < 3 → (tcells t).set f u = tcells t' → (flat xs).set (k * 3 + f) u = flat (xs.set k t') := by
  induction xs with
  | nil => intro k f u t t' h; simp at h
  | cons a l ih =>
    intro k f u t t' h hf hs
    rcases k with _ | k
    · simp at h; subst h
      rw [List.set_cons_zero, flat_cons, flat_cons, Nat.zero_mul, Nat.zero_add, List.set_append_left _ _ (by simp [tcells]; omega), hs]
    · rw [List.set_cons_succ, flat_cons, flat_cons, List.set_append_right _ _ (by simp [tcells]; omega), show (k + 1) * 3 + f - (tcells a).length = k * 3 + f from by simp [tcells]; omega, ih k f u t t' (by simpa using h) hf hs]
theorem OwnT.put {w : World} {base g c : Nat} {xs : List Tri} (h : OwnT w base (some ⟨g, 0, none⟩) c xs) {k f : Nat} {t t' : Tri} (hk : xs[k]? = some t) (hf : f < 3) {u : Value} (hs : (tcells t).set f u = tcells t') : OwnT (w.setCell ⟨g, k * 3 + f, none⟩ u) base (some ⟨g, 0, none⟩) c (xs.set k t') := by
  have := (World.ownsRow.stored h (k * 3 + f) u).1
  unfold OwnT
  rw [List.length_set, ← flat_set xs k f u t t' hk hf hs]
  exact this
theorem OwnT.put0 {w : World} {base g c : Nat} {xs : List Tri} (h : OwnT w base (some ⟨g, 0, none⟩) c xs) {k : Nat} {x y z : Int} (hk : xs[k]? = some (x, y, z)) (a : Int) : OwnT (w.setCell ⟨g, k * 3, none⟩ (.int .i64 a)) base (some ⟨g, 0, none⟩) c (xs.set k (a, y, z)) := by
  have := h.put (f := 0) (t' := (a, y, z)) hk (by omega) (u := .int .i64 a) rfl
  exact this
theorem OwnT.put1 {w : World} {base g c : Nat} {xs : List Tri} (h : OwnT w base (some ⟨g, 0, none⟩) c xs) {k : Nat} {x y z : Int} (hk : xs[k]? = some (x, y, z)) (a : Int) : OwnT (w.setCell ⟨g, k * 3 + 1, none⟩ (.int .i64 a)) base (some ⟨g, 0, none⟩) c (xs.set k (x, a, z)) := h.put (f := 1) (t' := (x, a, z)) hk (by omega) rfl
theorem OwnT.put2 {w : World} {base g c : Nat} {xs : List Tri} (h : OwnT w base (some ⟨g, 0, none⟩) c xs) {k : Nat} {x y z : Int} (hk : xs[k]? = some (x, y, z)) (a : Int) : OwnT (w.setCell ⟨g, k * 3 + 2, none⟩ (.int .i64 a)) base (some ⟨g, 0, none⟩) c (xs.set k (x, y, a)) := h.put (f := 2) (t' := (x, y, a)) hk (by omega) rfl
theorem OwnT.put3 {w : World} {base g c : Nat} {xs : List Tri} (h : OwnT w base (some ⟨g, 0, none⟩) c xs) {k : Nat} {x y z : Int} (hk : xs[k]? = some (x, y, z)) (a b d : Int) : OwnT (((w.setCell ⟨g, k * 3, none⟩ (.int .i64 a)).setCell ⟨g, k * 3 + 1, none⟩ (.int .i64 b)).setCell ⟨g, k * 3 + 2, none⟩ (.int .i64 d)) base (some ⟨g, 0, none⟩) c (xs.set k (a, b, d)) := by
  have hlt := (List.getElem?_eq_some_iff.1 hk).1
  have h1 := h.put0 hk a
  have h2 := h1.put1 (k := k) (x := a) (y := y) (z := z) (by rw [List.getElem?_set_self hlt]) b
  rw [List.set_set] at h2
  have h3 := h2.put2 (k := k) (x := a) (y := b) (z := z) (by rw [List.getElem?_set_self hlt]) d
  rw [List.set_set] at h3
  exact h3
theorem grown_put {w w' : World} {g : Nat} (h : w.grownBy w' (some g)) (i : Nat) (u : Value) : w.grownBy (w'.setCell ⟨g, i, none⟩ u) (some g) :=
  ⟨h.os, h.tape, h.output, by simpa [World.setCell] using h.size, fun k hk hne => (Below.heap_setCell w' ⟨g, i, none⟩ u k (by simp only; intro e; exact hne (by rw [e]))).trans (h.block k hk hne)⟩
end Go.Proofs.YtkjolmbcafonaaaDoor
