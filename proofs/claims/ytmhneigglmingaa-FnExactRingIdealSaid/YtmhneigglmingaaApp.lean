/- append on rows of integers of the call's own: at a plain operation and at a step of a region that draws its order. -/
import Derived.Test.YtmhneigglmingaaInts
import Derived.Maps.AppendAt
import Derived.Deep.RegionLaw
namespace Go.Proofs.Ytmhneigglmingaa
open Go.RowKit
set_option maxHeartbeats 400000
set_option linter.unusedVariables false
theorem OwnI.grown {w w' : World} {base R : Nat} {A : Option Addr} {c : Nat} {xs : List Int} (h : OwnI w base A c xs) (hg : w.grownBy w' (some R)) (hR : R < base) : OwnI w' base A c xs :=
  World.ownsRow.kept h hg (by
    rcases e : (Value.slice A xs.length c).ownBlock with _ | k
    · exact .inl rfl
    · exact .inr (fun e' => by injection e' with e'; have := (World.ownsRow.lt h k e).1; omega))
theorem OwnI.alloc {w : World} {base : Nat} {A : Option Addr} {c : Nat} {xs : List Int} (h : OwnI w base A c xs) (o : Obj) : OwnI (w.alloc o) base A c xs := World.ownsRow.alloc h o
theorem OwnI.drewN {w : World} {base : Nat} {A : Option Addr} {c : Nat} {xs : List Int} (h : OwnI w base A c xs) (n : Nat) : OwnI (w.drewN n) base A c xs := h
theorem OwnI.empty (w : World) {base : Nat} (hb : base ≤ w.heap.size) : OwnI (w.alloc (.cells #[] 3)) base (some ⟨w.heap.size, 0, none⟩) 0 [] :=
  World.ownsRow_lit w #[] 0 hb (by unfold maxLen; omega) (by simp)
theorem OwnI.none_ (w : World) (base : Nat) : OwnI w base none 0 [] := World.ownsRow_nil w base _ 1

theorem grown_drew {a w : World} {row : Option Nat} (h : a.grownBy w row) : a.grownBy w.drew row := ⟨h.os, h.tape, h.output, h.size, h.block⟩
/-- The source of an append: the slice '.slice A m c' reads as ys. -/
def SrcI (w : World) (A : Option Addr) (m c : Nat) (ys : List Int) : Prop := ys.length = m ∧ ((A = none ∧ m = 0 ∧ c = 0) ∨ ∃ ad, A = some ad ∧ ∀ j y, ys[j]? = some y → w.cell? (ad.add j) = some (.int .i64 y))
theorem OwnI.form {w : World} {base : Nat} {A : Option Addr} {c : Nat} {xs : List Int} (h : OwnI w base A c xs) : (A = none ∧ c = 0 ∧ xs = []) ∨ ∃ g, A = some ⟨g, 0, none⟩ ∧ base ≤ g ∧ g < w.heap.size := by
  rcases h.2 with ⟨hv, h0⟩ | ⟨g, cap, cur, hv, hb, hg, _⟩
  · injection hv with h1 h2 h3
    exact .inl ⟨h1, h3, List.eq_nil_of_length_eq_zero h0⟩
  · injection hv with h1 h2 h3
    exact .inr ⟨g, h1, hb, (Array.getElem?_eq_some_iff.1 hg).1⟩
theorem OwnI.row {w : World} {base : Nat} {A : Option Addr} {c : Nat} {xs : List Int} (h : OwnI w base A c xs) : ∀ k, A.map (·.block) = some k → base ≤ k := by
  intro k hk
  rcases h.form with ⟨h1, _⟩ | ⟨g, h1, h2, _⟩
  · subst h1; cases hk
  · subst h1; simp at hk; omega
theorem OwnI.some_ {w : World} {base : Nat} {A : Option Addr} {c : Nat} {xs : List Int} (h : OwnI w base A c xs) (hn : 0 < xs.length) : ∃ g, A = some ⟨g, 0, none⟩ := by
  rcases h.form with ⟨h1, _, h3⟩ | ⟨g, h1, h2, _⟩
  · subst h3; simp at hn
  · exact ⟨g, h1⟩
theorem OwnI.cells {w : World} {base g : Nat} {c : Nat} {xs : List Int} (h : OwnI w base (some ⟨g, 0, none⟩) c xs) : ∀ j y, xs[j]? = some y → w.cell? ((⟨g, 0, none⟩ : Addr).add j) = some (.int .i64 y) :=
  fun j y hy => World.ownsRow.cells h (g := g) rfl j _ (by simp [hy])
theorem add_at (g k j : Nat) : (⟨g, k, none⟩ : Addr).add j = ⟨g, k + j, none⟩ := by unfold Addr.add; split <;> simp_all
theorem OwnI.src {w : World} {base : Nat} {A : Option Addr} {c : Nat} {xs : List Int} (h : OwnI w base A c xs) : SrcI w A xs.length c xs := by
  refine ⟨rfl, ?_⟩
  rcases h.form with ⟨h1, h2, h3⟩ | ⟨g, rfl, _⟩
  · exact .inl ⟨h1, by rw [h3]; rfl, h2⟩
  · exact .inr ⟨_, rfl, h.cells⟩
theorem OwnI.upTo {w : World} {base : Nat} {A : Option Addr} {c : Nat} {xs : List Int} (h : OwnI w base A c xs) (k : Nat) (hk : k ≤ xs.length) : SrcI w A k c (xs.take k) := by
  refine ⟨by simp; omega, ?_⟩
  rcases h.form with ⟨h1, h2, h3⟩ | ⟨g, rfl, _⟩
  · subst h3; exact .inl ⟨h1, by simpa using hk, h2⟩
  · refine .inr ⟨_, rfl, fun j y hy => h.cells j y ?_⟩
    rw [List.getElem?_take] at hy
    split at hy
    · exact hy
    · cases hy
theorem OwnI.from_ {w : World} {base g : Nat} {c : Nat} {xs : List Int} (h : OwnI w base (some ⟨g, 0, none⟩) c xs) (k : Nat) (hk : k ≤ xs.length) : SrcI w (some ⟨g, k, none⟩) (xs.length - k) (c - k) (xs.drop k) := by
  refine ⟨by simp, .inr ⟨_, rfl, fun j y hy => ?_⟩⟩
  rw [List.getElem?_drop] at hy
  have := h.cells (k + j) y hy
  rw [add_at] at this ⊢
  simpa using this
theorem SrcI.nothing (w : World) (ad : Addr) (c : Nat) : SrcI w (some ad) 0 c [] := ⟨rfl, .inr ⟨ad, rfl, fun j y hy => by simp at hy⟩⟩
theorem SrcI.cap {w : World} {ad : Addr} {m c : Nat} {ys : List Int} (h : SrcI w (some ad) m c ys) (c' : Nat) : SrcI w (some ad) m c' ys := by
  refine ⟨h.1, ?_⟩
  rcases h.2 with ⟨h1, _⟩ | h1
  · cases h1
  · exact .inr h1
theorem SrcI.endZero {w : World} {ys : List Int} {k : Nat} (ad : Addr) (c : Nat) (h : ys.length = k) : SrcI w (some ad) 0 c (ys.drop k) := by
  refine ⟨by simp; omega, .inr ⟨_, rfl, fun j y hy => ?_⟩⟩
  rw [List.drop_eq_nil_of_le (by omega)] at hy
  simp at hy
theorem SrcI.keep {w w' : World} {A : Option Addr} {m c : Nat} {ys : List Int} (h : SrcI w A m c ys) (hk : ∀ ad, A = some ad → w'.heap[ad.block]? = w.heap[ad.block]?) : SrcI w' A m c ys := by
  refine ⟨h.1, ?_⟩
  rcases h.2 with h1 | ⟨ad, e, hc⟩
  · exact .inl h1
  · exact .inr ⟨ad, e, fun j y hy => (World.cell?_of_block (by rw [block_add]; exact hk ad e)).trans (hc j y hy)⟩
/-- One number that lies in a new block. -/
theorem SrcI.one (w : World) (x : Int) : SrcI (w.alloc (.cells #[.int .i64 x] 3)) (some ⟨w.heap.size, 0, none⟩) 1 1 [x] := by
  refine ⟨rfl, .inr ⟨_, rfl, fun j y hy => ?_⟩⟩
  refine cell_one_new w (.int .i64 x) _ j _ ?_
  rcases j with _ | j
  · simpa using hy
  · simp at hy

theorem hp_new (w : World) (o : Obj) : (w.alloc o).heap[w.heap.size]? = some o := heap_alloc_new w o
theorem hp_new1 (w : World) (a o : Obj) : ((w.alloc a).alloc o).heap[w.heap.size + 1]? = some o := heap_alloc2_new w a o
theorem hp_old {w : World} {b : Nat} {x : Obj} (o : Obj) (h : w.heap[b]? = some x) : (w.alloc o).heap[b]? = some x := (Below.heap_alloc w o b (lt_of_block h)).trans h
theorem hp_drew {w : World} {b : Nat} {x : Option Obj} (h : w.heap[b]? = x) : w.drew.heap[b]? = x := h
theorem hp_grown {w w' : World} {b : Nat} {x : Obj} {r : Option Nat} (hg : w.grownBy w' r) (hne : some b ≠ r) (h : w.heap[b]? = some x) : w'.heap[b]? = some x := (hg.block b (lt_of_block h) hne).trans h
theorem OwnI.empty_of {w : World} {base b : Nat} (hb : base ≤ b) (hh : w.heap[b]? = some (.cells #[] 3 (0, 0))) : OwnI w base (some ⟨b, 0, none⟩) 0 [] :=
  ⟨by simp, .inr ⟨b, 0, #[], rfl, hb, hh, Nat.le_refl _, by unfold maxLen; omega, rfl, by simp⟩⟩
theorem SrcI.one_of {w : World} {b : Nat} {x : Int} (hh : w.heap[b]? = some (.cells #[.int .i64 x] 3 (0, 0))) : SrcI w (some ⟨b, 0, none⟩) 1 1 [x] := by
  refine ⟨rfl, .inr ⟨_, rfl, fun j y hy => ?_⟩⟩
  have hadd : (⟨b, 0, none⟩ : Addr).add j = ⟨b, j, none⟩ := by rw [add_at, Nat.zero_add]
  rw [hadd, cell_of_row _ _ _ _ _ _ hh]
  rcases j with _ | j
  · simp at hy; subst hy; rfl
  · simp at hy
theorem app_run {P : Program} {t : TypeId} (ht : P.underlying t = some (.slice 3)) {i : TypeInfo} (hi : P.info? 3 = some i) (hz : i.zero = some (.int .i64 0)) (hsz : i.size = 1) (hby : i.bytes = 8) (ty : TypeId)
    {w : World} {base : Nat} {A : Option Addr} {c : Nat} {xs : List Int} (hown : OwnI w base A c xs) {A' : Option Addr} {m c' : Nat} {ys : List Int} (hsrc : SrcI w A' m c' ys) (hl : xs.length + ys.length ≤ 1048576) (hb : base ≤ w.heap.size) :
    ∃ A'' c'' w', (Builtin.append_ #[t, t] ty #[.slice A xs.length c, .slice A' m c']).run P w = .ok (.slice A'' (xs ++ ys).length c'') w' ∧ OwnI w' base A'' c'' (xs ++ ys) ∧ w.grownBy w' (A.map (·.block)) ∧
      (A''.map (·.block) = A.map (·.block) ∨ A''.map (·.block) = some w.heap.size) := by
  have hbl : (Value.slice A xs.length c).ownBlock = A.map (·.block) := by cases A <;> rfl
  obtain ⟨hm, hs⟩ := hsrc
  rcases hs with ⟨rfl, rfl, rfl⟩ | ⟨ad, rfl, hc⟩
  · have hy : ys = [] := List.eq_nil_of_length_eq_zero hm
    subst hy
    exact ⟨A, c, w, by rw [List.append_nil]; exact run_append_owned_none w base t ty _ i 1 ht hi _ _ _ hown, by rw [List.append_nil]; exact hown, World.grownBy.refl w _, .inl rfl⟩
  · have hcells : ∀ j u, (ys.map (Value.int .i64))[j]? = some u → w.cell? (ad.add j) = some u := by
      intro j u hu
      rw [List.getElem?_map] at hu
      obtain ⟨y, hy, rfl⟩ := Option.map_eq_some_iff.1 hu
      exact hc j y hy
    obtain ⟨v', w', hr, h2, h3, h4, h5⟩ := run_append_own_at (P := P) w base t ty _ i _ 1 8 ht hi hz hsz hby rfl (by omega) _ _ _ hown ad m c' (ys.map (Value.int .i64)) (by simpa using hm) hcells (ints_oneCell .i64 ys) (by unfold maxLen; omega) (by omega) hb
    have hform : ∃ A'' c'', v' = .slice A'' (xs.length + m) c'' := by
      rcases h2.2 with ⟨hv, h0⟩ | ⟨g, cap, cur, hv, _⟩
      · exact ⟨none, 0, by rw [hv, h0]⟩
      · exact ⟨_, _, hv⟩
    obtain ⟨A'', c'', rfl⟩ := hform
    have hl2 : (xs ++ ys).length = xs.length + m := by simp; omega
    have hbl2 : (Value.slice A'' (xs.length + m) c'').ownBlock = A''.map (·.block) := by cases A'' <;> rfl
    rw [hbl, hbl2] at h5
    rw [hbl] at h3
    refine ⟨A'', c'', w', by rw [hl2]; exact hr, ?_, h3, h5⟩
    unfold OwnI
    rw [hl2, List.map_append]
    exact h2
section
variable {P : Program} {t : TypeId} {ops : Array Oper} {rest : List Oper} {o : Oper} {a : Act} {K : Act → World → Prop} {Q : Exit → Act → World → Prop} {E : Prop}
theorem wp_app (ht : P.underlying t = some (.slice 3)) {i : TypeInfo} (hi : P.info? 3 = some i) (hz : i.zero = some (.int .i64 0)) (hsz : i.size = 1) (hby : i.bytes = 8)
    (s x : Operand) (ho : o.op = .call { callee := .builtin .append, args := #[s, x], argTypes := #[t, t] })
    {w : World} {base : Nat} {A : Option Addr} {n c : Nat} {xs : List Int} (hs : a.eval s = .slice A n c) (hn : n = xs.length) (hown : OwnI w base A c xs) {A' : Option Addr} {m c' : Nat} {ys : List Int} (hx : a.eval x = .slice A' m c') (hsrc : SrcI w A' m c' ys) (hl : xs.length + ys.length ≤ 1048576) (hb : base ≤ w.heap.size)
    (h : ∀ A'' c'' w', OwnI w' base A'' c'' (xs ++ ys) → w.grownBy w' (A.map (·.block)) → (A''.map (·.block) = A.map (·.block) ∨ A''.map (·.block) = some w.heap.size) → K (a.put o.dst (.slice A'' (xs ++ ys).length c'')) w') : o.wp P a w K Q := by
  subst hn
  obtain ⟨A'', c'', w', hr, h2, h3, h4⟩ := app_run (P := P) ht hi hz hsz hby o.type hown hsrc hl hb
  unfold Oper.wp execOp
  simp only [ho, resolve, invoke, builtin, Sem.run_bind, Sem.run_pure, Result.andThen_ok, List.map_toArray, List.map_cons, List.map_nil, hs, hx, hr]
  exact h A'' c'' w' h2 h3 h4
theorem list_app (hgd : o.guard = none) (ht : P.underlying t = some (.slice 3)) {i : TypeInfo} (hi : P.info? 3 = some i) (hz : i.zero = some (.int .i64 0)) (hsz : i.size = 1) (hby : i.bytes = 8)
    (s x : Operand) (ho : o.op = .call { callee := .builtin .append, args := #[s, x], argTypes := #[t, t] })
    {w : World} {base : Nat} {A : Option Addr} {n c : Nat} {xs : List Int} (hs : a.eval s = .slice A n c) (hn : n = xs.length) (hown : OwnI w base A c xs) {A' : Option Addr} {m c' : Nat} {ys : List Int} (hx : a.eval x = .slice A' m c') (hsrc : SrcI w A' m c' ys) (hl : xs.length + ys.length ≤ 1048576) (hb : base ≤ w.heap.size)
    (h : ∀ A'' c'' w', OwnI w' base A'' c'' (xs ++ ys) → w.grownBy w' (A.map (·.block)) → (A''.map (·.block) = A.map (·.block) ∨ A''.map (·.block) = some w.heap.size) → wpList P ops Q rest (a.put o.dst (.slice A'' (xs ++ ys).length c'')) w') : wpList P ops Q (o :: rest) a w :=
  wpList_plain hgd fun _ hK => wp_app ht hi hz hsz hby s x ho hs hn hown hx hsrc hl hb fun A'' c'' w' h2 h3 h4 => hK _ _ (h A'' c'' w' h2 h3 h4)
theorem step_app (hgd : o.guard = none) (ht : P.underlying t = some (.slice 3)) {i : TypeInfo} (hi : P.info? 3 = some i) (hz : i.zero = some (.int .i64 0)) (hsz : i.size = 1) (hby : i.bytes = 8)
    (s x : Operand) (ho : o.op = .call { callee := .builtin .append, args := #[s, x], argTypes := #[t, t] })
    {w : World} {base : Nat} {A : Option Addr} {n c : Nat} {xs : List Int} (hs : a.eval s = .slice A n c) (hn : n = xs.length) (hown : OwnI w base A c xs) {A' : Option Addr} {m c' : Nat} {ys : List Int} (hx : a.eval x = .slice A' m c') (hsrc : SrcI w A' m c' ys) (hl : xs.length + ys.length ≤ 1048576) (hb : base ≤ w.heap.size)
    (h : ∀ A'' c'' w', OwnI w' base A'' c'' (xs ++ ys) → w.grownBy w' (A.map (·.block)) → (A''.map (·.block) = A.map (·.block) ∨ A''.map (·.block) = some w.heap.size) → K (a.put o.dst (.slice A'' (xs ++ ys).length c'')) w') :
    if Region.wanted o (yielded ops a.tmps) = true then Oper.wp P o a w K Q else E := by
  have hw : Region.wanted o (yielded ops a.tmps) = true := by simp [Region.wanted, hgd]
  rw [if_pos hw]
  exact wp_app ht hi hz hsz hby s x ho hs hn hown hx hsrc hl hb h
end
end Go.Proofs.Ytmhneigglmingaa
