/- Slices of nodes: markNodeS, heldNodeS: a row of nodes of the call's own is written over and read again. -/
import Derived.Test.YtmhneigglmingaaNodeQ
import Derived.Test.YtmhneigglmingaaMark
namespace Go.Proofs.Ytmhneigglmingaa
open Go.RowKit Go.ChangeShapes Go.WideShapes Go.Deep
set_option maxHeartbeats 1000000
set_option linter.unusedVariables false
/-- Only blocks from lo on and below hi (and new ones) have turned. -/
def Among (lo hi : Nat) (w w' : World) : Prop := Below lo w w' ∧ ∀ k, hi ≤ k → k < w.heap.size → w'.heap[k]? = w.heap[k]?
theorem Among.refl (lo hi : Nat) (w : World) : Among lo hi w w := ⟨Below.refl _ _, fun _ _ _ => rfl⟩
theorem Among.setCell {lo hi : Nat} {w w' : World} (h : Among lo hi w w') {g : Nat} (h1 : lo ≤ g) (h2 : g < hi) (i : Nat) (u : Value) : Among lo hi w (w'.setCell ⟨g, i, none⟩ u) :=
  ⟨h.1.setCell (p := ⟨g, i, none⟩) h1 _, fun k hk hlt => (Below.heap_setCell w' ⟨g, i, none⟩ u k (by simp only; omega)).trans (h.2 k hk hlt)⟩
theorem Among.grown {lo hi : Nat} {w w1 w2 : World} (h : Among lo hi w w1) {g : Nat} (hg : w1.grownBy w2 (some g)) (h1 : lo ≤ g) (h2 : g < hi) (hlo : lo ≤ w1.heap.size) : Among lo hi w w2 :=
  ⟨h.1.trans ((Below.refl _ _).grown hg hlo (fun k e => by cases e; exact h1)), fun k hk hlt => (hg.block k (by have := h.1.size; omega) (fun e => by injection e with e; omega)).trans (h.2 k hk hlt)⟩
theorem OwnI.among {w w' : World} {base lo hi : Nat} {A : Option Addr} {c : Nat} {xs : List Int} (h : OwnI w base A c xs) (ha : Among lo hi w w') (hb : hi ≤ base) : OwnI w' base A c xs := by
  refine ⟨h.1, ?_⟩
  rcases h.2 with h2 | ⟨g, cap, cur, hv, hg, hh, r⟩
  · exact .inl h2
  · exact .inr ⟨g, cap, cur, hv, hg, (ha.2 g (by omega) (Array.getElem?_eq_some_iff.1 hh).1).trans hh, r⟩
/-- A row of nodes of the call's own, all in blocks from base on and below hi. -/
def RowIn (w : World) (base hi : Nat) (A : Option Addr) (c : Nat) (xs : List Nod) : Prop :=
  ∃ (bl cp : Nat → Nat) (cs : List Value), w.ownsRow base 41 3 (.slice A xs.length c) xs.length cs ∧ (∀ k, A.map (·.block) = some k → k < hi) ∧
    (∀ k x, xs[k]? = some x → cs[k * 3]? = some (.int .i64 x.1) ∧ cs[k * 3 + 1]? = some (.int .i64 x.2.1) ∧ cs[k * 3 + 2]? = some (.slice (some ⟨bl k, 0, none⟩) x.2.2.length (cp k)) ∧ OwnI w base (some ⟨bl k, 0, none⟩) (cp k) x.2.2 ∧ A.map (·.block) ≠ some (bl k) ∧ bl k < hi) ∧
    (∀ i j, i < xs.length → j < xs.length → i ≠ j → bl i ≠ bl j)
theorem RowN.in_ {w : World} {base : Nat} {A : Option Addr} {c : Nat} {xs : List Nod} (h : RowN w base A c xs.length xs) : RowIn w base w.heap.size A c xs := by
  have hf := h.form
  obtain ⟨bl, cp, cs, hr, hl, hx, hd⟩ := h
  refine ⟨bl, cp, cs, hr, fun k hk => ?_, fun k x hkx => ?_, hd⟩
  · rcases hf with ⟨h1, _⟩ | ⟨g, h1, _, h2, _⟩
    · subst h1; cases hk
    · subst h1; simp at hk; omega
  · obtain ⟨e1, e2, e3, ho, hne⟩ := hx k x hkx
    exact ⟨e1, e2, e3, ho, hne, (World.ownsRow.lt ho (bl k) rfl).2⟩
theorem RowIn.row {w : World} {base hi : Nat} {A : Option Addr} {c : Nat} {xs : List Nod} (h : RowIn w base hi A c xs) : RowN w base A c xs.length xs := by
  obtain ⟨bl, cp, cs, hr, _, hx, hd⟩ := h
  refine ⟨bl, cp, cs, hr, Nat.le_refl _, fun k x hkx => ?_, hd⟩
  obtain ⟨e1, e2, e3, ho, hne, _⟩ := hx k x hkx
  exact ⟨e1, e2, e3, ho, hne⟩
theorem RowIn.below {w w' : World} {base hi B : Nat} {A : Option Addr} {c : Nat} {xs : List Nod} (h : RowIn w base hi A c xs) (hb : Below B w w') (hB : w.heap.size ≤ B) : RowIn w' base hi A c xs := by
  obtain ⟨bl, cp, cs, hr, hA, hx, hd⟩ := h
  refine ⟨bl, cp, cs, World.ownsRow.kept (row := some B) hr ⟨hb.os, hb.tape, hb.output, hb.size, fun k hk _ => hb.block k (by omega)⟩
    (.inr fun e => by have := (World.ownsRow.lt hr _ e).2; omega), hA, fun k x hk => ?_, hd⟩
  obtain ⟨e1, e2, e3, ho, r⟩ := hx k x hk
  exact ⟨e1, e2, e3, ho.below hb hB, r⟩
theorem RowIn.base {w : World} {base base' hi : Nat} {A : Option Addr} {c : Nat} {xs : List Nod} (h : RowIn w base hi A c xs) (hB : base' ≤ base) : RowIn w base' hi A c xs := by
  obtain ⟨bl, cp, cs, hr, hA, hx, hd⟩ := h
  refine ⟨bl, cp, cs, ⟨hr.1, ?_⟩, hA, fun k x hk => ?_, hd⟩
  · rcases hr.2 with h2 | ⟨g, cap, cur, hv, hg, r⟩
    · exact .inl h2
    · exact .inr ⟨g, cap, cur, hv, by omega, r⟩
  obtain ⟨e1, e2, e3, ho, r⟩ := hx k x hk
  exact ⟨e1, e2, e3, ho.base hB, r⟩
theorem RowIn.among {w w' : World} {base hi lo hi' : Nat} {A : Option Addr} {c : Nat} {xs : List Nod} (h : RowIn w base hi A c xs) (ha : Among lo hi' w w') (hb : hi' ≤ base) : RowIn w' base hi A c xs := by
  obtain ⟨bl, cp, cs, hr, hA, hx, hd⟩ := h
  refine ⟨bl, cp, cs, ⟨hr.1, ?_⟩, hA, fun k x hk => ?_, hd⟩
  · rcases hr.2 with h2 | ⟨g, cap, cur, hv, hg, hh, r⟩
    · exact .inl h2
    · exact .inr ⟨g, cap, cur, hv, hg, (ha.2 g (by omega) (Array.getElem?_eq_some_iff.1 hh).1).trans hh, r⟩
  obtain ⟨e1, e2, e3, ho, r⟩ := hx k x hk
  exact ⟨e1, e2, e3, ho.among ha hb, r⟩
theorem RowIn.form {w : World} {base hi : Nat} {A : Option Addr} {c : Nat} {xs : List Nod} (h : RowIn w base hi A c xs) : (A = none ∧ c = 0 ∧ xs.length = 0) ∨ ∃ g, A = some ⟨g, 0, none⟩ ∧ base ≤ g ∧ g < hi ∧ g < w.heap.size := by
  have hh : ∀ k, A.map (·.block) = some k → k < hi := by obtain ⟨_, _, _, _, hA, _⟩ := h; exact hA
  rcases h.row.form with h1 | ⟨g, rfl, h1, h2, _⟩
  · exact .inl h1
  · exact .inr ⟨g, rfl, h1, hh g rfl, h2⟩
/-- One number of a node is written over. -/
theorem RowIn.setNum {w : World} {base hi g c k : Nat} {xs : List Nod} (h : RowIn w base hi (some ⟨g, 0, none⟩) c xs) {x : Nod} (hx : xs[k]? = some x) (v : Int) :
    RowIn (w.setCell ⟨g, k * 3, none⟩ (.int .i64 v)) base hi (some ⟨g, 0, none⟩) c (xs.set k (v, x.2.1, x.2.2)) ∧ RowIn (w.setCell ⟨g, k * 3 + 1, none⟩ (.int .i64 v)) base hi (some ⟨g, 0, none⟩) c (xs.set k (x.1, v, x.2.2)) := by
  have hlt := (List.getElem?_eq_some_iff.1 hx).1
  obtain ⟨bl, cp, cs, hr, hA, hxs, hd⟩ := h
  have hcl : cs.length = xs.length * 3 := hr.1
  constructor
  · refine ⟨bl, cp, _, by rw [List.length_set]; exact (World.ownsRow.stored hr (k * 3) (.int .i64 v)).1, hA, fun j y hy => ?_, fun i j hi hj => hd i j (by simpa using hi) (by simpa using hj)⟩
    by_cases hjk : j = k
    · subst hjk
      rw [List.getElem?_set_self hlt] at hy
      injection hy with hy
      subst hy
      obtain ⟨e1, e2, e3, ho, hne, hb⟩ := hxs j x hx
      have hgb : g ≠ bl j := fun e => hne (by rw [e]; rfl)
      exact ⟨by rw [List.getElem?_set_self (by omega)], by rw [List.getElem?_set_ne (by omega)]; exact e2, by rw [List.getElem?_set_ne (by omega)]; exact e3, ho.poke hgb, hne, hb⟩
    · rw [List.getElem?_set_ne (by omega)] at hy
      obtain ⟨e1, e2, e3, ho, hne, hb⟩ := hxs j y hy
      have hgb : g ≠ bl j := fun e => hne (by rw [e]; rfl)
      exact ⟨by rw [List.getElem?_set_ne (by omega)]; exact e1, by rw [List.getElem?_set_ne (by omega)]; exact e2, by rw [List.getElem?_set_ne (by omega)]; exact e3, ho.poke hgb, hne, hb⟩
  · refine ⟨bl, cp, _, by rw [List.length_set]; exact (World.ownsRow.stored hr (k * 3 + 1) (.int .i64 v)).1, hA, fun j y hy => ?_, fun i j hi hj => hd i j (by simpa using hi) (by simpa using hj)⟩
    by_cases hjk : j = k
    · subst hjk
      rw [List.getElem?_set_self hlt] at hy
      injection hy with hy
      subst hy
      obtain ⟨e1, e2, e3, ho, hne, hb⟩ := hxs j x hx
      have hgb : g ≠ bl j := fun e => hne (by rw [e]; rfl)
      exact ⟨by rw [List.getElem?_set_ne (by omega)]; exact e1, by rw [List.getElem?_set_self (by omega)], by rw [List.getElem?_set_ne (by omega)]; exact e3, ho.poke hgb, hne, hb⟩
    · rw [List.getElem?_set_ne (by omega)] at hy
      obtain ⟨e1, e2, e3, ho, hne, hb⟩ := hxs j y hy
      have hgb : g ≠ bl j := fun e => hne (by rw [e]; rfl)
      exact ⟨by rw [List.getElem?_set_ne (by omega)]; exact e1, by rw [List.getElem?_set_ne (by omega)]; exact e2, by rw [List.getElem?_set_ne (by omega)]; exact e3, ho.poke hgb, hne, hb⟩
/-- A node's list: it lies in a block of its own; when it is written over, the row holds what is new. -/
theorem RowIn.list_ {w : World} {base hi g c k : Nat} {xs : List Nod} (h : RowIn w base hi (some ⟨g, 0, none⟩) c xs) {x : Nod} (hx : xs[k]? = some x) :
    ∃ b cb, w.cell? ⟨g, k * 3 + 2, none⟩ = some (.slice (some ⟨b, 0, none⟩) x.2.2.length cb) ∧ OwnI w base (some ⟨b, 0, none⟩) cb x.2.2 ∧ base ≤ b ∧ b < hi ∧
      ∀ (w' : World) (ys : List Int), ys.length = x.2.2.length → w.grownBy w' (some b) → OwnI w' base (some ⟨b, 0, none⟩) cb ys → RowIn w' base hi (some ⟨g, 0, none⟩) c (xs.set k (x.1, x.2.1, ys)) := by
  have hlt := (List.getElem?_eq_some_iff.1 hx).1
  obtain ⟨bl, cp, cs, hr, hA, hxs, hd⟩ := h
  obtain ⟨e1, e2, e3, ho, hne, hb⟩ := hxs k x hx
  have hcell := World.ownsRow.cells hr (g := g) rfl _ _ e3
  rw [add_at, Nat.zero_add] at hcell
  refine ⟨bl k, cp k, hcell, ho, (World.ownsRow.lt ho (bl k) rfl).1, hb, fun w' ys hl hg ho' => ?_⟩
  have hgb : g ≠ bl k := fun e => hne (by rw [e]; rfl)
  refine ⟨bl, cp, cs, ?_, hA, fun j y hy => ?_, fun i j hi hj => hd i j (by simpa using hi) (by simpa using hj)⟩
  · rw [List.length_set]
    exact World.ownsRow.kept hr hg (.inr (by simp [Value.ownBlock]; omega))
  · by_cases hjk : j = k
    · subst hjk
      rw [List.getElem?_set_self hlt] at hy
      injection hy with hy
      subst hy
      exact ⟨e1, e2, by simp only; rw [hl]; exact e3, ho', hne, hb⟩
    · rw [List.getElem?_set_ne (by omega)] at hy
      obtain ⟨f1, f2, f3, hoj, hnej, hbj⟩ := hxs j y hy
      exact ⟨f1, f2, f3, hoj.apart hg (fun e => hd k j hlt (by have := (List.getElem?_eq_some_iff.1 hy).1; omega) (fun e => hjk e.symm) e), hnej, hbj⟩
theorem RowIn.cells {w : World} {base hi g c k : Nat} {xs : List Nod} (h : RowIn w base hi (some ⟨g, 0, none⟩) c xs) {x : Nod} (hx : xs[k]? = some x) :
    w.cell? ⟨g, k * 3, none⟩ = some (.int .i64 x.1) ∧ w.cell? ⟨g, k * 3 + 1, none⟩ = some (.int .i64 x.2.1) := by
  obtain ⟨bl, cp, cs, hr, hA, hxs, hd⟩ := h
  obtain ⟨e1, e2, e3, ho, hne, hb⟩ := hxs k x hx
  have c1 := World.ownsRow.cells hr (g := g) rfl _ _ e1
  have c2 := World.ownsRow.cells hr (g := g) rfl _ _ e2
  rw [add_at, Nat.zero_add] at c1 c2
  exact ⟨c1, c2⟩
/-- All that a round of marking asks. -/
theorem RowIn.mark {w : World} {base hi g c k : Nat} {xs : List Nod} (h : RowIn w base hi (some ⟨g, 0, none⟩) c xs) {x : Nod} (hx : xs[k]? = some x) (v1 v2 : Int) :
    ∃ b cb, w.cell? ⟨g, k * 3 + 2, none⟩ = some (.slice (some ⟨b, 0, none⟩) x.2.2.length cb) ∧ base ≤ b ∧ b < hi ∧ OwnI ((w.setCell ⟨g, k * 3, none⟩ (.int .i64 v1)).setCell ⟨g, k * 3 + 1, none⟩ (.int .i64 v2)) base (some ⟨b, 0, none⟩) cb x.2.2 ∧
      ∀ (w' : World) (ys : List Int), ys.length = x.2.2.length → ((w.setCell ⟨g, k * 3, none⟩ (.int .i64 v1)).setCell ⟨g, k * 3 + 1, none⟩ (.int .i64 v2)).grownBy w' (some b) → OwnI w' base (some ⟨b, 0, none⟩) cb ys → RowIn w' base hi (some ⟨g, 0, none⟩) c (xs.set k (v1, v2, ys)) := by
  have hlt := (List.getElem?_eq_some_iff.1 hx).1
  have h1 := (h.setNum hx v1).1
  have hx1 : (xs.set k (v1, x.2.1, x.2.2))[k]? = some (v1, x.2.1, x.2.2) := List.getElem?_set_self hlt
  have h2 := (h1.setNum hx1 v2).2
  rw [List.set_set] at h2
  have hx2 : (xs.set k (v1, v2, x.2.2))[k]? = some (v1, v2, x.2.2) := List.getElem?_set_self hlt
  obtain ⟨b, cb, hc, ho, h3, h4, h5⟩ := h2.list_ hx2
  rw [World.cell?_setCell_other (h := by simp), World.cell?_setCell_other (h := by simp)] at hc
  refine ⟨b, cb, hc, h3, h4, ho, fun w' ys hl hg ho' => ?_⟩
  have := h5 w' ys hl hg ho'
  rwa [List.set_set] at this
/-! ### The numbers that are written -/
def sumN (xs : List Nod) : Int := xs.foldl (fun s x => s + 2 + (x.2.2.length : Int)) 0
def mkN (s : Int) : List Nod → List Nod
  | [] => []
  | x :: l => (s, s + 1, upFrom (s + 2) x.2.2.length) :: mkN (s + 2 + (x.2.2.length : Int)) l
theorem sum_snoc (l : List Nod) (x : Nod) : sumN (l ++ [x]) = sumN l + 2 + (x.2.2.length : Int) := by simp [sumN]
theorem foldl_add (l : List Nod) : ∀ s : Int, l.foldl (fun s x => s + 2 + (x.2.2.length : Int)) s = s + sumN l := by
  induction l with
  | nil => intro s; simp [sumN]
  | cons x l ih => intro s; unfold sumN; rw [List.foldl_cons, List.foldl_cons, ih, ih]; omega
theorem sum_cons (x : Nod) (l : List Nod) : sumN (x :: l) = 2 + (x.2.2.length : Int) + sumN l := by
  conv => lhs; unfold sumN
  rw [List.foldl_cons, foldl_add]; omega
theorem mk_snoc (l : List Nod) (x : Nod) : ∀ s : Int, mkN s (l ++ [x]) = mkN s l ++ [(s + sumN l, s + sumN l + 1, upFrom (s + sumN l + 2) x.2.2.length)] := by
  induction l with
  | nil => intro s; simp [mkN, sumN]
  | cons y l ih => intro s; rw [List.cons_append]; simp only [mkN]; rw [ih, sum_cons, List.cons_append, show s + 2 + (y.2.2.length : Int) + sumN l = s + (2 + (y.2.2.length : Int) + sumN l) from by omega]
theorem mk_len (l : List Nod) : ∀ s : Int, (mkN s l).length = l.length := by
  induction l with
  | nil => intro s; rfl
  | cons y l ih => intro s; simp [mkN, ih]
theorem sum_nonneg (l : List Nod) : 0 ≤ sumN l := by
  induction l with
  | nil => exact Int.le_refl _
  | cons y l ih => rw [sum_cons]; omega
theorem sum_le (l : List Nod) (h : fits l) : sumN l ≤ 1048578 * (l.length : Int) := by
  induction l with
  | nil => simp [sumN]
  | cons y l ih =>
    rw [sum_cons]
    have h1 := h y (by simp)
    have h2 := ih (fun x hx => h x (by simp [hx]))
    simp only [List.length_cons]
    push_cast
    omega
theorem fits_take {l : List Nod} (h : fits l) (k : Nat) : fits (l.take k) := fun x hx => h x (List.mem_of_mem_take hx)
/-- The row when the first k nodes are written over. -/
def markN (xs : List Nod) (s : Int) (k : Nat) : List Nod := mkN s (xs.take k) ++ xs.drop k
theorem markN_zero (xs : List Nod) (s : Int) : markN xs s 0 = xs := by simp [markN, mkN]
theorem markN_all (xs : List Nod) (s : Int) : markN xs s xs.length = mkN s xs := by simp [markN]
theorem markN_len (xs : List Nod) (s : Int) (k : Nat) (hk : k ≤ xs.length) : (markN xs s k).length = xs.length := by simp [markN, mk_len]; omega
theorem markN_at {xs : List Nod} (s : Int) {k : Nat} {x : Nod} (hx : xs[k]? = some x) : (markN xs s k)[k]? = some x := by
  have hk := (List.getElem?_eq_some_iff.1 hx).1
  unfold markN
  rw [List.getElem?_append_right (by rw [mk_len]; simp; omega), mk_len, List.length_take, Nat.min_eq_left (by omega), Nat.sub_self, List.getElem?_drop, Nat.add_zero, hx]
theorem markN_set {xs : List Nod} (s : Int) {k : Nat} {x : Nod} (hx : xs[k]? = some x) :
    (markN xs s k).set k (s + sumN (xs.take k), s + sumN (xs.take k) + 1, upFrom (s + sumN (xs.take k) + 2) x.2.2.length) = markN xs s (k + 1) := by
  obtain ⟨hk, rfl⟩ := List.getElem?_eq_some_iff.1 hx
  unfold markN
  have hl : (mkN s (xs.take k)).length = k := by rw [mk_len]; simp; omega
  rw [List.set_append_right _ _ (by omega), hl, Nat.sub_self, List.drop_eq_getElem_cons hk, List.set_cons_zero, take_snoc hx, mk_snoc, List.append_assoc]
  rfl
theorem fits_set {xs : List Nod} (h : fits xs) (k : Nat) (x : Nod) (hx : x.2.2.length ≤ 1048576) : fits (xs.set k x) := by
  intro y hy
  rcases List.mem_or_eq_of_mem_set hy with h1 | h1
  · exact h y h1
  · subst h1; exact hx
theorem markNode_any (base hi : Nat) (A : Option Addr) (c : Nat) (xs : List Nod) (s : Int) (hs : 0 ≤ s) (hs' : s ≤ 1048576) (hl : xs.length ≤ 1048576) (hfit : fits xs) (w : World) (hlo : base ≤ w.heap.size) (h : RowIn w base hi A c xs) :
    Calls Try.prog 19 #[.slice A xs.length c, .int .i64 s] w fun e w' => e = .returned (.int .i64 (s + sumN xs)) ∧ RowIn w' base hi A c (mkN s xs) ∧ Among base hi w w' := by
  rw [← markN_zero xs s] at h
  have HL := Lib.hid h
  go_enter Try.func19, Try.ntmps19
  go_wp2
  go_loopw [1, 5] (fun k i wr => ∃ j : Nat, j ≤ xs.length ∧ i = .int .i64 j ∧ k = .int .i64 (s + sumN (xs.take j)) ∧ RowIn wr base hi A c (markN xs s j) ∧ Among base hi w wr) (fun _ i _ => xs.length - (intOf i).toNat)
  case atStart => exact ⟨0, Nat.zero_le _, rfl, by simp [sumN], HL.out, Among.refl _ _ _⟩
  case round =>
    obtain ⟨j, hj, rfl, rfl, ho, ha⟩ := hrel
    clear h HL
    by_cases hlt : j < xs.length
    · obtain ⟨x, hx⟩ : ∃ x, xs[j]? = some x := ⟨_, List.getElem?_eq_getElem hlt⟩
      have hfx := hfit x (List.mem_of_getElem? hx)
      have hlen := markN_len xs s j hj
      have hmx := markN_at s hx
      have hst := markN_set s hx
      have hs1 : sumN (xs.take (j + 1)) = sumN (xs.take j) + 2 + (x.2.2.length : Int) := by rw [take_snoc hx, sum_snoc]
      have hq0 := sum_nonneg (xs.take j)
      have hq1 := sum_le (xs.take j) (fits_take hfit j)
      have hq2 : ((xs.take j).length : Int) ≤ 1048576 := by simp; omega
      obtain ⟨q, hq⟩ : ∃ q, q = s + sumN (xs.take j) := ⟨_, rfl⟩
      rw [← hq] at hst ⊢
      have hq3 : 0 ≤ q := by omega
      have hq4 : q ≤ 1125899906842000 := by omega
      rw [show q + 2 = q + 1 + 1 from by omega] at hst
      have HQ := Lib.hid (show s + sumN (xs.take (j + 1)) = q + 1 + 1 + (x.2.2.length : Int) from by omega)
      clear hs1 hq0 hq1 hq2 hq
      obtain ⟨g, rfl, hg1, hg2, -⟩ : ∃ g, A = some ⟨g, 0, none⟩ ∧ base ≤ g ∧ g < hi ∧ g < wr.heap.size := by
        rcases ho.form with ⟨_, _, h3⟩ | h3
        · omega
        · exact h3
      obtain ⟨c1, c2⟩ := ho.cells hmx
      obtain ⟨b, cb, c3, hb1, hb2, hoi, hfin⟩ := ho.mark hmx q (q + 1)
      have f1 := ho.row.free (j * 3)
      have f2 := ho.row.free (j * 3 + 1)
      have HC := Lib.hid (mark_any base (some ⟨b, 0, none⟩) cb x.2.2 (q + 1 + 1) (by omega) (by omega) hfx _ hoi)
      have ha2 : Among base hi w ((wr.setCell ⟨g, j * 3, none⟩ (.int .i64 q)).setCell ⟨g, j * 3 + 1, none⟩ (.int .i64 (q + 1))) := (ha.setCell hg1 hg2 _ _).setCell hg1 hg2 _ _
      have HA2 := Lib.hid ha2
      have HFin := Lib.hid hfin
      have HST := Lib.hid hst
      have hsz : base ≤ ((wr.setCell ⟨g, j * 3, none⟩ (.int .i64 q)).setCell ⟨g, j * 3 + 1, none⟩ (.int .i64 (q + 1))).heap.size := Nat.le_trans hlo ha2.1.size
      have HSZ := Lib.hid hsz
      clear hmx hst ho ha hoi ha2 hfin hsz
      have hlx : (x.2.2.length : Int) ≤ 1048576 := by omega
      go_wp2_with fail
      refine (HC.out).mono ?_; rintro e w4 ⟨rfl, ho4, hg4⟩
      go_wp2
      go_roundw
      case rel =>
        refine ⟨j + 1, by omega, by go_num, by rw [HQ.out], ?_, HA2.out.grown hg4 hb1 hb2 HSZ.out⟩
        have := HFin.out w4 _ (upFrom_len _ _) hg4 ho4
        rwa [HST.out] at this
      case measure => simp [intOf]; omega
    · have : j = xs.length := by omega
      subst this
      rw [markN_all, List.take_length] at *
      go_wp2
      go_ret
      exact ⟨rfl, ho, ha⟩
end Go.Proofs.Ytmhneigglmingaa
