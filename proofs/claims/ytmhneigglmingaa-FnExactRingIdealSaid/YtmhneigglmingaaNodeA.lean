/- append on rows of nodes of the call's own: at a plain operation and at a step of a region that draws its order. -/
import Derived.Test.YtmhneigglmingaaNodeK
import Derived.Maps.AppendAt
import Derived.Deep.RegionLaw
namespace Go.Proofs.Ytmhneigglmingaa
open Go.RowKit
set_option maxHeartbeats 400000
set_option linter.unusedVariables false
theorem OwnI.apartRow {w w' : World} {base b : Nat} {row : Option Nat} {c : Nat} {xs : List Int} (h : OwnI w base (some ⟨b, 0, none⟩) c xs) (hg : w.grownBy w' row) (hne : row ≠ some b) : OwnI w' base (some ⟨b, 0, none⟩) c xs :=
  World.ownsRow.kept h hg (.inr (by simpa [Value.ownBlock] using fun e => hne (by rw [← e])))
theorem RowN.none_ (w : World) (base : Nat) : RowN w base none 0 0 [] := ⟨fun _ => 0, fun _ => 0, [], World.ownsRow_nil w base _ 3, by simp, fun k x hk => by simp at hk, fun i j hi => by simp at hi⟩
theorem RowN.empty (w : World) {base : Nat} (hb : base ≤ w.heap.size) : RowN (w.alloc (.cells #[] 41)) base (some ⟨w.heap.size, 0, none⟩) 0 0 [] :=
  ⟨fun _ => 0, fun _ => 0, [], World.ownsRow_lit w #[] 0 hb (by unfold maxLen; omega) (by simp), by simp, fun k x hk => by simp at hk, fun i j hi => by simp at hi⟩
theorem RowN.rowBase {w : World} {base : Nat} {A : Option Addr} {c n : Nat} {xs : List Nod} (h : RowN w base A c n xs) : ∀ k, A.map (·.block) = some k → base ≤ k ∧ k < w.heap.size := by
  intro k hk
  rcases h.form with ⟨h1, _⟩ | ⟨g, h1, h2, h3, _⟩
  · subst h1; cases hk
  · subst h1; simp at hk; omega
theorem app_runN {P : Program} {t : TypeId} (ht : P.underlying t = some (.slice 41)) {i : TypeInfo} (hi : P.info? 41 = some i) (hz : i.zero = some (.agg #[.int .i64 0, .int .i64 0, .slice none 0 0])) (hsz : i.size = 3) (hby : i.bytes = 40) (ty : TypeId)
    {w0 w : World} {base : Nat} {A : Option Addr} {c : Nat} {xs : List Nod} (hrow : RowN w0 base A c xs.length xs) (hB : base ≤ w0.heap.size) (hb : Below w0.heap.size w0 w) {x : Nod} {b cb sb c' : Nat} (hbb : w0.heap.size ≤ b) (ho : OwnI w w0.heap.size (some ⟨b, 0, none⟩) cb x.2.2)
    (hsrc : w.heap[sb]? = some (.cells #[.int .i64 x.1, .int .i64 x.2.1, .slice (some ⟨b, 0, none⟩) x.2.2.length cb] 41 (0, 0))) (hl : xs.length < 1048576) :
    ∃ A'' c'' w', (Builtin.append_ #[t, t] ty #[.slice A xs.length c, .slice (some ⟨sb, 0, none⟩) 1 c']).run P w = .ok (.slice A'' (xs.length + 1) c'') w' ∧ RowN w' base A'' c'' (xs ++ [x]).length (xs ++ [x]) ∧ w.grownBy w' (A.map (·.block)) ∧
      (A''.map (·.block) = A.map (·.block) ∨ A''.map (·.block) = some w.heap.size) := by
  have hbl : ∀ (A : Option Addr) (n c : Nat), (Value.slice A n c).ownBlock = A.map (·.block) := fun A n c => by cases A <;> rfl
  have hr0 := hrow.rowBase
  have hsize := hb.size
  obtain ⟨bl0, cp0, cs0, hr0', hl0, hx0, hd0⟩ := hrow
  obtain ⟨bl, cp, cs, hr, hln, hx, hd⟩ : ∃ (bl cp : Nat → Nat) (cs : List Value), w.ownsRow base 41 3 (.slice A xs.length c) xs.length cs ∧ xs.length ≤ xs.length ∧
    (∀ k x, xs[k]? = some x → cs[k * 3]? = some (.int .i64 x.1) ∧ cs[k * 3 + 1]? = some (.int .i64 x.2.1) ∧ cs[k * 3 + 2]? = some (.slice (some ⟨bl k, 0, none⟩) x.2.2.length (cp k)) ∧ OwnI w base (some ⟨bl k, 0, none⟩) (cp k) x.2.2 ∧ A.map (·.block) ≠ some (bl k) ∧ bl k < w0.heap.size) ∧
    (∀ i j, i < xs.length → j < xs.length → i ≠ j → bl i ≠ bl j) := by
    refine ⟨bl0, cp0, cs0, World.ownsRow.kept (row := some w0.heap.size) hr0' ⟨hb.os, hb.tape, hb.output, hb.size, fun k hk _ => hb.block k hk⟩ (.inr fun e => by have := (World.ownsRow.lt hr0' _ e).2; omega), Nat.le_refl _, fun k y hy => ?_, hd0⟩
    obtain ⟨e1, e2, e3, hoi, hne⟩ := hx0 k y hy
    exact ⟨e1, e2, e3, hoi.below hb (Nat.le_refl _), hne, (World.ownsRow.lt hoi _ rfl).2⟩
  have hcl : cs.length = xs.length * 3 := hr.1
  obtain ⟨v', w', hrun, h2, h3, -, h5⟩ := run_append_own_at (P := P) w base t ty _ i _ 3 40 ht hi hz hsz hby rfl (by omega) _ _ _ hr ⟨sb, 0, none⟩ 1 c' [.int .i64 x.1, .int .i64 x.2.1, .slice (some ⟨b, 0, none⟩) x.2.2.length cb] rfl
    (fun j u hu => by rw [add_at, Nat.zero_add, cell_of_row _ _ _ _ _ _ hsrc]; simpa using hu) (by intro u hu; simp at hu; rcases hu with rfl | rfl | rfl <;> rfl) (by unfold maxLen; omega) (by omega) (Nat.le_trans hB hb.size)
  have hform : ∃ A'' c'', v' = .slice A'' (xs.length + 1) c'' := by
    rcases h2.2 with ⟨hv, h0⟩ | ⟨g, cap, cur, hv, _⟩
    · omega
    · exact ⟨_, _, hv⟩
  obtain ⟨A'', c'', rfl⟩ := hform
  rw [hbl, hbl] at h5
  rw [hbl] at h3
  have hl2 : (xs ++ [x]).length = xs.length + 1 := by simp
  have hbw : b < w.heap.size := (World.ownsRow.lt ho b rfl).2
  have hAb : A.map (·.block) ≠ some b := fun e => by have := (hr0 b e).2; omega
  have hA'' : ∀ q, q < w.heap.size → A.map (·.block) ≠ some q → A''.map (·.block) ≠ some q := fun q hq hne e => by
    rcases h5 with h5 | h5
    · exact hne (by rw [← h5]; exact e)
    · rw [h5] at e; injection e with e; omega
  refine ⟨A'', c'', w', hrun, ⟨fun k => if k = xs.length then b else bl k, fun k => if k = xs.length then cb else cp k, _, by rw [hl2]; exact h2, Nat.le_refl _, fun k y hy => ?_, fun i j hi hj hij => ?_⟩, h3, h5⟩
  · by_cases hkl : k < xs.length
    · rw [List.getElem?_append_left hkl] at hy
      obtain ⟨e1, e2, e3, hoi, hne, hlt⟩ := hx k y hy
      simp only [if_neg (show ¬ k = xs.length from by omega)]
      exact ⟨by rw [List.getElem?_append_left (by omega)]; exact e1, by rw [List.getElem?_append_left (by omega)]; exact e2, by rw [List.getElem?_append_left (by omega)]; exact e3, hoi.apartRow h3 hne, hA'' _ (by omega) hne⟩
    · have hke : k = xs.length := by have := (List.getElem?_eq_some_iff.1 hy).1; simp at this; omega
      subst hke
      rw [List.getElem?_append_right (Nat.le_refl _), Nat.sub_self] at hy
      simp at hy
      subst hy
      simp only [if_pos True.intro]
      refine ⟨?_, ?_, ?_, (ho.base hB).apartRow h3 hAb, hA'' _ hbw hAb⟩
      · rw [List.getElem?_append_right (by omega), hcl, Nat.sub_self]; rfl
      · rw [List.getElem?_append_right (by omega), hcl, show xs.length * 3 + 1 - xs.length * 3 = 1 from by omega]; rfl
      · rw [List.getElem?_append_right (by omega), hcl, show xs.length * 3 + 2 - xs.length * 3 = 2 from by omega]; rfl
  · rw [hl2] at hi hj
    by_cases h1 : i = xs.length
    · have h2' : ¬ j = xs.length := by omega
      simp only [if_pos h1, if_neg h2']
      have := (hx j _ (List.getElem?_eq_getElem (by omega))).2.2.2.2.2
      omega
    · simp only [if_neg h1]
      by_cases h2' : j = xs.length
      · simp only [if_pos h2']
        have := (hx i _ (List.getElem?_eq_getElem (by omega))).2.2.2.2.2
        omega
      · simp only [if_neg h2']
        exact hd i j (by omega) (by omega) hij
section
variable {P : Program} {t : TypeId} {ops : Array Oper} {rest : List Oper} {o : Oper} {a : Act} {K : Act → World → Prop} {Q : Exit → Act → World → Prop} {E : Prop}
theorem wp_appN (ht : P.underlying t = some (.slice 41)) {i : TypeInfo} (hi : P.info? 41 = some i) (hz : i.zero = some (.agg #[.int .i64 0, .int .i64 0, .slice none 0 0])) (hsz : i.size = 3) (hby : i.bytes = 40)
    (s x : Operand) (ho : o.op = .call { callee := .builtin .append, args := #[s, x], argTypes := #[t, t] })
    {w0 w : World} {base : Nat} {A : Option Addr} {n c : Nat} {xs : List Nod} (hs : a.eval s = .slice A n c) (hn : n = xs.length) (hrow : RowN w0 base A c xs.length xs) (hB : base ≤ w0.heap.size) (hb : Below w0.heap.size w0 w) {y : Nod} {b cb sb c' : Nat} (hx : a.eval x = .slice (some ⟨sb, 0, none⟩) 1 c') (hbb : w0.heap.size ≤ b) (hoi : OwnI w w0.heap.size (some ⟨b, 0, none⟩) cb y.2.2)
    (hsrc : w.heap[sb]? = some (.cells #[.int .i64 y.1, .int .i64 y.2.1, .slice (some ⟨b, 0, none⟩) y.2.2.length cb] 41 (0, 0))) (hl : xs.length < 1048576)
    (h : ∀ A'' c'' w', RowN w' base A'' c'' (xs ++ [y]).length (xs ++ [y]) → w.grownBy w' (A.map (·.block)) → (A''.map (·.block) = A.map (·.block) ∨ A''.map (·.block) = some w.heap.size) → K (a.put o.dst (.slice A'' (xs.length + 1) c'')) w') : o.wp P a w K Q := by
  subst hn
  obtain ⟨A'', c'', w', hr, h2, h3, h4⟩ := app_runN (P := P) ht hi hz hsz hby o.type hrow hB hb hbb hoi hsrc (c' := c') hl
  unfold Oper.wp execOp
  simp only [ho, resolve, invoke, builtin, Sem.run_bind, Sem.run_pure, Result.andThen_ok, List.map_toArray, List.map_cons, List.map_nil, hs, hx, hr]
  exact h A'' c'' w' h2 h3 h4
theorem list_appN (hgd : o.guard = none) (ht : P.underlying t = some (.slice 41)) {i : TypeInfo} (hi : P.info? 41 = some i) (hz : i.zero = some (.agg #[.int .i64 0, .int .i64 0, .slice none 0 0])) (hsz : i.size = 3) (hby : i.bytes = 40)
    (s x : Operand) (ho : o.op = .call { callee := .builtin .append, args := #[s, x], argTypes := #[t, t] })
    {w0 w : World} {base : Nat} {A : Option Addr} {n c : Nat} {xs : List Nod} (hs : a.eval s = .slice A n c) (hn : n = xs.length) (hrow : RowN w0 base A c xs.length xs) (hB : base ≤ w0.heap.size) (hb : Below w0.heap.size w0 w) {y : Nod} {b cb sb c' : Nat} (hx : a.eval x = .slice (some ⟨sb, 0, none⟩) 1 c') (hbb : w0.heap.size ≤ b) (hoi : OwnI w w0.heap.size (some ⟨b, 0, none⟩) cb y.2.2)
    (hsrc : w.heap[sb]? = some (.cells #[.int .i64 y.1, .int .i64 y.2.1, .slice (some ⟨b, 0, none⟩) y.2.2.length cb] 41 (0, 0))) (hl : xs.length < 1048576)
    (h : ∀ A'' c'' w', RowN w' base A'' c'' (xs ++ [y]).length (xs ++ [y]) → w.grownBy w' (A.map (·.block)) → (A''.map (·.block) = A.map (·.block) ∨ A''.map (·.block) = some w.heap.size) → wpList P ops Q rest (a.put o.dst (.slice A'' (xs.length + 1) c'')) w') : wpList P ops Q (o :: rest) a w :=
  wpList_plain hgd fun _ hK => wp_appN ht hi hz hsz hby s x ho hs hn hrow hB hb hx hbb hoi hsrc hl fun A'' c'' w' h2 h3 h4 => hK _ _ (h A'' c'' w' h2 h3 h4)
theorem step_appN (hgd : o.guard = none) (ht : P.underlying t = some (.slice 41)) {i : TypeInfo} (hi : P.info? 41 = some i) (hz : i.zero = some (.agg #[.int .i64 0, .int .i64 0, .slice none 0 0])) (hsz : i.size = 3) (hby : i.bytes = 40)
    (s x : Operand) (ho : o.op = .call { callee := .builtin .append, args := #[s, x], argTypes := #[t, t] })
    {w0 w : World} {base : Nat} {A : Option Addr} {n c : Nat} {xs : List Nod} (hs : a.eval s = .slice A n c) (hn : n = xs.length) (hrow : RowN w0 base A c xs.length xs) (hB : base ≤ w0.heap.size) (hb : Below w0.heap.size w0 w) {y : Nod} {b cb sb c' : Nat} (hx : a.eval x = .slice (some ⟨sb, 0, none⟩) 1 c') (hbb : w0.heap.size ≤ b) (hoi : OwnI w w0.heap.size (some ⟨b, 0, none⟩) cb y.2.2)
    (hsrc : w.heap[sb]? = some (.cells #[.int .i64 y.1, .int .i64 y.2.1, .slice (some ⟨b, 0, none⟩) y.2.2.length cb] 41 (0, 0))) (hl : xs.length < 1048576)
    (h : ∀ A'' c'' w', RowN w' base A'' c'' (xs ++ [y]).length (xs ++ [y]) → w.grownBy w' (A.map (·.block)) → (A''.map (·.block) = A.map (·.block) ∨ A''.map (·.block) = some w.heap.size) → K (a.put o.dst (.slice A'' (xs.length + 1) c'')) w') :
    if Region.wanted o (yielded ops a.tmps) = true then Oper.wp P o a w K Q else E := by
  have hw : Region.wanted o (yielded ops a.tmps) = true := by simp [Region.wanted, hgd]
  rw [if_pos hw]
  exact wp_appN ht hi hz hsz hby s x ho hs hn hrow hB hb hx hbb hoi hsrc hl h
end
end Go.Proofs.Ytmhneigglmingaa
