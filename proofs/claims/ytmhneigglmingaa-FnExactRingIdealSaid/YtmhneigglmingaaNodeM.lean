/- Slices of nodes: toNode, toNodeS, eqNode, eqNodeS: a made row of nodes of the call's own. -/
import Derived.Test.YtmhneigglmingaaNode
namespace Go.Proofs.Ytmhneigglmingaa
open Go.RowKit Go.ChangeShapes Go.WideShapes Go.Deep
set_option maxHeartbeats 1000000
set_option linter.unusedVariables false
theorem OwnI.apart {w w' : World} {base R b : Nat} {c : Nat} {xs : List Int} (h : OwnI w base (some ⟨b, 0, none⟩) c xs) (hg : w.grownBy w' (some R)) (hne : R ≠ b) : OwnI w' base (some ⟨b, 0, none⟩) c xs :=
  World.ownsRow.kept h hg (.inr (by simp [Value.ownBlock]; omega))
theorem OwnI.poke {w : World} {base g i b : Nat} {u : Value} {c : Nat} {xs : List Int} (h : OwnI w base (some ⟨b, 0, none⟩) c xs) (hne : g ≠ b) : OwnI (w.setCell ⟨g, i, none⟩ u) base (some ⟨b, 0, none⟩) c xs :=
  h.apart (R := g) ⟨rfl, rfl, rfl, by simp [World.setCell], fun k hk hne' => Below.heap_setCell w ⟨g, i, none⟩ u k (by simp only; intro e; exact hne' (by rw [e]))⟩ hne
theorem cells3 {w : World} {n : Nat} {a b c : Value} {t : TypeId} (h : w.heap[n]? = some (.cells #[a, b, c] t (0, 0))) : w.cell? ⟨n, 0, none⟩ = some a ∧ w.cell? ⟨n, 1, none⟩ = some b ∧ w.cell? ⟨n, 2, none⟩ = some c := by
  refine ⟨?_, ?_, ?_⟩ <;> rw [cell_of_row w n _ _ t (0, 0) h] <;> rfl
theorem free3 {w : World} {n : Nat} {a b c : Value} {t : TypeId} (h : w.heap[n]? = some (.cells #[a, b, c] t (0, 0))) (o : Nat) : w.frozen? ⟨n, o, none⟩ = false := by
  unfold World.frozen?; simp [h]
theorem alloc_top (w : World) (x : Obj) : (w.alloc x).heap[w.heap.size]? = some x := by
  simp only [World.alloc, Array.getElem?_push_size]
theorem toNode_any (x y : Int) (A : Option Addr) (c : Nat) (xs : List Int) (hl : xs.length ≤ 1048576) (w : World) (h : NumsAt .i64 w w.heap.size A xs) :
    Calls Try.prog 32 #[.agg #[.int .i64 x, .int .i64 y, .slice A xs.length c]] w fun e w' => (∃ b, w.heap.size ≤ b ∧ e = .returned (.agg #[.int .i64 x, .int .i64 y, .slice (some ⟨b, 0, none⟩) xs.length xs.length]) ∧ OwnI w' w.heap.size (some ⟨b, 0, none⟩) xs.length xs) ∧ Below w.heap.size w w' := by
  have HC := fun (w1 : World) (h1 : Below w.heap.size w w1) => Lib.hid (toIntS_any w.heap.size A c xs hl w1 h1.size (h.below h1))
  clear h
  have hb0 : Below w.heap.size w (((w.alloc (.cells #[.int .i64 x, .int .i64 y, .slice A xs.length c] 40 (0, 0))).alloc (.cells #[.int .i64 0, .int .i64 0, .slice none 0 0] 41 (0, 0))).alloc (.cells #[.int .i64 x, .int .i64 y, .slice none 0 0] 41 (0, 0))) :=
    (((Below.refl _ _).alloc (Nat.le_refl _) _).alloc (by simp) _).alloc (by simp; omega) _
  obtain ⟨W, hW⟩ : ∃ W, W = (((w.alloc (.cells #[.int .i64 x, .int .i64 y, .slice A xs.length c] 40 (0, 0))).alloc (.cells #[.int .i64 0, .int .i64 0, .slice none 0 0] 41 (0, 0))).alloc (.cells #[.int .i64 x, .int .i64 y, .slice none 0 0] 41 (0, 0))) := ⟨_, rfl⟩
  have hsz : W.heap.size = w.heap.size + 3 := by rw [hW]; simp
  have h1 : W.heap[w.heap.size + 1]? = some (.cells #[.int .i64 0, .int .i64 0, .slice none 0 0] 41 (0, 0)) := by
    rw [hW]; exact hp_old _ (hp_new1 w _ _)
  have h2 : W.heap[w.heap.size + 1 + 1]? = some (.cells #[.int .i64 x, .int .i64 y, .slice none 0 0] 41 (0, 0)) := by
    rw [hW]
    have := alloc_top ((w.alloc (.cells #[.int .i64 x, .int .i64 y, .slice A xs.length c] 40 (0, 0))).alloc (.cells #[.int .i64 0, .int .i64 0, .slice none 0 0] 41 (0, 0))) (.cells #[.int .i64 x, .int .i64 y, .slice none 0 0] 41 (0, 0))
    rwa [show ((w.alloc (.cells #[.int .i64 x, .int .i64 y, .slice A xs.length c] 40 (0, 0))).alloc (.cells #[.int .i64 0, .int .i64 0, .slice none 0 0] 41 (0, 0))).heap.size = w.heap.size + 1 + 1 from by simp] at this
  rw [← hW] at hb0
  have HC1 := HC W hb0
  have HW := Lib.hid hW
  clear HC hW
  go_enter Try.func32, Try.ntmps32
  go_wp2_with fail
  rw [← HW.out]
  refine HC1.out.mono ?_; rintro e w4 ⟨rfl, ho, hb⟩
  replace h1 := (hb.block _ (by omega)).trans h1
  replace h2 := (hb.block _ (by omega)).trans h2
  have hs1 := (Array.getElem?_eq_some_iff.1 h1).1
  have hs2 := (Array.getElem?_eq_some_iff.1 h2).1
  obtain ⟨c1, c2, c3⟩ := cells3 h1
  obtain ⟨d1, d2, d3⟩ := cells3 h2
  have f1 := free3 h1 0
  have f2 := free3 h1 1
  have f3 := free3 h1 2
  have g1 := free3 h2 0
  have g2 := free3 h2 1
  have g3 := free3 h2 2
  have HB := Lib.hid (below_next hb0 hb)
  have HO := Lib.hid ho
  have HS := Lib.hid hsz
  clear h1 h2 hb hb0 ho HC1 HW
  rw [hsz]
  clear hsz
  go_wp2_with fail
  refine bodyPost_ret (v := .agg #[.int .i64 x, .int .i64 y, .slice (some ⟨w.heap.size + 3, 0, none⟩) xs.length xs.length]) (by simp [results, Try.results32, go_sem, c1, c2, c3]) rfl ⟨⟨w.heap.size + 3, by omega, rfl, ?_⟩, ?_⟩
  · have := HO.out
    rw [HS.out] at this
    exact ((((this.base (by omega)).poke (by omega)).poke (by omega)).poke (by omega)).poke (by omega)
  · exact (((HB.out.setCell (p := ⟨w.heap.size + 1 + 1, 2, none⟩) (by simp; omega) _).setCell (p := ⟨w.heap.size + 1, 0, none⟩) (by simp) _).setCell (p := ⟨w.heap.size + 1, 1, none⟩) (by simp) _).setCell (p := ⟨w.heap.size + 1, 2, none⟩) (by simp) _
/-- The first nodes of a row of n nodes of the call's own are xs; every list of them lies in a block of its own. -/
def RowN (w : World) (base : Nat) (A : Option Addr) (c n : Nat) (xs : List Nod) : Prop :=
  ∃ (bl cp : Nat → Nat) (cs : List Value), w.ownsRow base 41 3 (.slice A n c) n cs ∧ xs.length ≤ n ∧
    (∀ k x, xs[k]? = some x → cs[k * 3]? = some (.int .i64 x.1) ∧ cs[k * 3 + 1]? = some (.int .i64 x.2.1) ∧ cs[k * 3 + 2]? = some (.slice (some ⟨bl k, 0, none⟩) x.2.2.length (cp k)) ∧ OwnI w base (some ⟨bl k, 0, none⟩) (cp k) x.2.2 ∧ A.map (·.block) ≠ some (bl k)) ∧
    (∀ i j, i < xs.length → j < xs.length → i ≠ j → bl i ≠ bl j)
theorem RowN.form {w : World} {base : Nat} {A : Option Addr} {c n : Nat} {xs : List Nod} (h : RowN w base A c n xs) : (A = none ∧ c = 0 ∧ n = 0) ∨ ∃ g, A = some ⟨g, 0, none⟩ ∧ base ≤ g ∧ g < w.heap.size ∧ n ≤ c ∧ c ≤ maxLen := by
  obtain ⟨_, _, cs, h, _⟩ := h
  rcases h.2 with ⟨hv, h0⟩ | ⟨g, cap, cur, hv, hb, hg, h1, h2, _⟩
  · injection hv with h1 h2 h3
    exact .inl ⟨h1, h3, h0⟩
  · injection hv with e1 e2 e3
    exact .inr ⟨g, e1, hb, (Array.getElem?_eq_some_iff.1 hg).1, by omega, by omega⟩
theorem RowN.nod {w : World} {base : Nat} {A : Option Addr} {c n : Nat} {xs : List Nod} (h : RowN w base A c n xs) : NodAt w w.heap.size A xs := by
  have hf := h.form
  obtain ⟨bl, cp, cs, hr, hl, hx, _⟩ := h
  intro k x hk
  have hlt := (List.getElem?_eq_some_iff.1 hk).1
  obtain ⟨e1, e2, e3, ho, _⟩ := hx k x hk
  rcases hf with ⟨_, _, h3⟩ | ⟨g, rfl, _, hg, _⟩
  · omega
  · have hc : ∀ j u, cs[j]? = some u → w.cell? ⟨g, j, none⟩ = some u := fun j u hu => by
      have := World.ownsRow.cells hr (g := g) rfl j u hu
      rwa [add_at, Nat.zero_add] at this
    exact ⟨g, 0, _, _, rfl, hg, by rw [Nat.zero_add]; exact hc _ _ e1, by rw [Nat.zero_add]; exact hc _ _ e2, by rw [Nat.zero_add]; exact hc _ _ e3, ho.len.1, ho.len.2, ho.nums⟩
theorem RowN.below {w w' : World} {base B : Nat} {A : Option Addr} {c n : Nat} {xs : List Nod} (h : RowN w base A c n xs) (hb : Below B w w') (hB : w.heap.size ≤ B) : RowN w' base A c n xs := by
  obtain ⟨bl, cp, cs, hr, hl, hx, hd⟩ := h
  refine ⟨bl, cp, cs, World.ownsRow.kept (row := some B) hr ⟨hb.os, hb.tape, hb.output, hb.size, fun k hk _ => hb.block k (by omega)⟩
    (.inr fun e => by have := (World.ownsRow.lt hr _ e).2; omega), hl, fun k x hk => ?_, hd⟩
  obtain ⟨e1, e2, e3, ho, hne⟩ := hx k x hk
  exact ⟨e1, e2, e3, ho.below hb hB, hne⟩
theorem RowN.base {w : World} {base base' : Nat} {A : Option Addr} {c n : Nat} {xs : List Nod} (h : RowN w base A c n xs) (hB : base' ≤ base) : RowN w base' A c n xs := by
  obtain ⟨bl, cp, cs, hr, hl, hx, hd⟩ := h
  refine ⟨bl, cp, cs, ⟨hr.1, ?_⟩, hl, fun k x hk => ?_, hd⟩
  · rcases hr.2 with h2 | ⟨g, cap, cur, hv, hg, r⟩
    · exact .inl h2
    · exact .inr ⟨g, cap, cur, hv, by omega, r⟩
  obtain ⟨e1, e2, e3, ho, hne⟩ := hx k x hk
  exact ⟨e1, e2, e3, ho.base hB, hne⟩
theorem RowN.drewN {w : World} {base : Nat} {A : Option Addr} {c n : Nat} {xs : List Nod} (h : RowN w base A c n xs) (m : Nat) : RowN (w.drewN m) base A c n xs := h
theorem RowN.cell {w : World} {base g c n : Nat} {xs : List Nod} (h : RowN w base (some ⟨g, 0, none⟩) c n xs) (j : Nat) (hj : j < n * 3) : ∃ v, w.cell? ⟨g, j, none⟩ = some v := by
  obtain ⟨bl, cp, cs, hr, _⟩ := h
  have hl : cs.length = n * 3 := hr.1
  exact ⟨cs[j]'(by omega), by rw [World.ownsRow.cellAt hr j hj]; exact List.getElem?_eq_getElem (by omega)⟩
theorem RowN.free {w : World} {base g c n : Nat} {xs : List Nod} (h : RowN w base (some ⟨g, 0, none⟩) c n xs) (j : Nat) : w.frozen? ⟨g, j, none⟩ = false := by
  obtain ⟨bl, cp, cs, hr, _⟩ := h
  exact World.ownsRow.frozenAt hr j
/-- One node more is laid into the row. -/
theorem RowN.step {w : World} {base g c n : Nat} {xs : List Nod} (h : RowN w base (some ⟨g, 0, none⟩) c n xs) (hk : xs.length < n) {x : Nod} {b cb : Nat} (ho : OwnI w base (some ⟨b, 0, none⟩) cb x.2.2) (hg : g ≠ b) (hnew : ∀ k y (A' : Addr) l c', xs[k]? = some y → w.cell? ⟨g, k * 3 + 2, none⟩ = some (.slice (some A') l c') → A'.block ≠ b) :
    RowN (((w.setCell ⟨g, xs.length * 3, none⟩ (.int .i64 x.1)).setCell ⟨g, xs.length * 3 + 1, none⟩ (.int .i64 x.2.1)).setCell ⟨g, xs.length * 3 + 2, none⟩ (.slice (some ⟨b, 0, none⟩) x.2.2.length cb)) base (some ⟨g, 0, none⟩) c n (xs ++ [x]) := by
  obtain ⟨bl, cp, cs, hr, hl, hx, hd⟩ := h
  have hcl : cs.length = n * 3 := hr.1
  have hold : ∀ k y, xs[k]? = some y → bl k ≠ b := fun k y hy => by
    obtain ⟨_, _, e3, _⟩ := hx k y hy
    have := World.ownsRow.cells hr (g := g) rfl _ _ e3
    rw [add_at, Nat.zero_add] at this
    exact hnew k y _ _ _ hy this
  refine ⟨fun k => if k = xs.length then b else bl k, fun k => if k = xs.length then cb else cp k, _, (World.ownsRow.stored (World.ownsRow.stored (World.ownsRow.stored hr _ _).1 _ _).1 _ _).1, by simp; omega, fun k y hy => ?_, fun i j hi hj hij => ?_⟩
  · by_cases hkl : k < xs.length
    · rw [List.getElem?_append_left hkl] at hy
      obtain ⟨e1, e2, e3, hoi, hne⟩ := hx k y hy
      have h1 : ∀ j u, j < k * 3 + 3 → cs[j]? = some u → (((cs.set (xs.length * 3) (.int .i64 x.1)).set (xs.length * 3 + 1) (.int .i64 x.2.1)).set (xs.length * 3 + 2) (.slice (some ⟨b, 0, none⟩) x.2.2.length cb))[j]? = some u := fun j u hj hu => by
        rw [List.getElem?_set_ne (by omega), List.getElem?_set_ne (by omega), List.getElem?_set_ne (by omega)]; exact hu
      simp only [if_neg (show ¬ k = xs.length from by omega)]
      have hgb : g ≠ bl k := fun e => hne (by rw [e]; rfl)
      exact ⟨h1 _ _ (by omega) e1, h1 _ _ (by omega) e2, h1 _ _ (by omega) e3, ((hoi.poke hgb).poke hgb).poke hgb, hne⟩
    · have hke : k = xs.length := by have := (List.getElem?_eq_some_iff.1 hy).1; simp at this; omega
      subst hke
      rw [List.getElem?_append_right (Nat.le_refl _), Nat.sub_self] at hy
      simp at hy
      subst hy
      simp only [if_pos True.intro]
      refine ⟨?_, ?_, ?_, ((ho.poke hg).poke hg).poke hg, fun e => hg (by injection e)⟩
      · rw [List.getElem?_set_ne (by omega), List.getElem?_set_ne (by omega), List.getElem?_set_self (by omega)]
      · rw [List.getElem?_set_ne (by omega), List.getElem?_set_self (by simp; omega)]
      · rw [List.getElem?_set_self (by simp; omega)]
  · simp at hi hj
    by_cases h1 : i = xs.length
    · have h2 : ¬ j = xs.length := by omega
      simp only [if_pos h1, if_neg h2]
      exact fun e => hold j _ (List.getElem?_eq_getElem (by omega)) e.symm
    · simp only [if_neg h1]
      by_cases h2 : j = xs.length
      · simp only [if_pos h2]
        exact hold i _ (List.getElem?_eq_getElem (by omega))
      · simp only [if_neg h2]
        exact hd i j (by omega) (by omega) hij
theorem RowN.more {w w' : World} {base g c n : Nat} {xs : List Nod} (h : RowN w base (some ⟨g, 0, none⟩) c n xs) (hk : xs.length < n) (hb : Below w.heap.size w w') (hB : base ≤ w.heap.size) {x : Nod} {b cb : Nat} (hbb : w.heap.size ≤ b) (ho : OwnI w' w.heap.size (some ⟨b, 0, none⟩) cb x.2.2) :
    RowN (((w'.setCell ⟨g, xs.length * 3, none⟩ (.int .i64 x.1)).setCell ⟨g, xs.length * 3 + 1, none⟩ (.int .i64 x.2.1)).setCell ⟨g, xs.length * 3 + 2, none⟩ (.slice (some ⟨b, 0, none⟩) x.2.2.length cb)) base (some ⟨g, 0, none⟩) c n (xs ++ [x]) := by
  have hgs : g < w.heap.size := by
    rcases h.form with ⟨h1, _⟩ | ⟨g', h1, _, h2, _⟩
    · cases h1
    · injection h1 with h1; injection h1 with h1; omega
  refine (h.below hb (Nat.le_refl _)).step hk (ho.base hB) (by omega) fun k y A' l c' hy hc => ?_
  rw [hb.cell (p := ⟨g, k * 3 + 2, none⟩) hgs] at hc
  obtain ⟨bl, cp, cs, hr, hl, hx, hd⟩ := h
  obtain ⟨_, _, e3, hoi, _⟩ := hx k y hy
  have := World.ownsRow.cells hr (g := g) rfl _ _ e3
  rw [add_at, Nat.zero_add, hc] at this
  injection this with this
  injection this with this
  injection this with this
  have hlt := (World.ownsRow.lt hoi (bl k) rfl).2
  rw [this]; simp only; omega
theorem take_snoc {α : Type} {xs : List α} {k : Nat} {x : α} (h : xs[k]? = some x) : xs.take (k + 1) = xs.take k ++ [x] := by rw [List.take_add_one, h]; rfl
theorem nod_info : (Try.prog.info? 41).map (fun i => (i.zero, i.size, i.bytes)) = some (some (.agg #[.int .i64 0, .int .i64 0, .slice none 0 0]), 3, 40) := by kernel_rfl
theorem toNodeS_any (B : Nat) (A : Option Addr) (c : Nat) (xs : List Nod) (hl : xs.length ≤ 1048576) (hfit : fits xs) (w : World) (hB : B ≤ w.heap.size) (h : NodAt w B A xs) :
    Calls Try.prog 11 #[.slice A xs.length c] w fun e w' => e = .returned (.slice (some ⟨w.heap.size, 0, none⟩) xs.length xs.length) ∧ RowN w' w.heap.size (some ⟨w.heap.size, 0, none⟩) xs.length xs.length xs ∧ Below w.heap.size w w' := by
  obtain ⟨i0, hi, hz0, hz1, hz2⟩ := info_parts nod_info
  have HI := Lib.hid hi
  have HZ0 := Lib.hid hz0
  have HZ1 := Lib.hid hz1
  have HZ2 := Lib.hid hz2
  clear hi hz0 hz1 hz2
  go_enter Try.func11, Try.ntmps11
  go_wp2_with (at_make; refine wpList_make_full w rfl _ _ _ rfl w.heap.size 41 i0 (.agg #[.int .i64 0, .int .i64 0, .slice none 0 0]) 3 Try.underlying25 HI.out HZ0.out HZ1.out .i64 .i64 _ _ xs.length rfl rfl rfl rfl (by rw [HZ2.out]; omega) (by unfold maxLen; omega) (Nat.le_refl _) ?_; intro w1 hown1 hg1)
  have hb1 : Below w.heap.size w w1 := (Below.refl _ _).grown hg1 (Nat.le_refl _) (by simp)
  have hF : RowN w1 w.heap.size (some ⟨w.heap.size, 0, none⟩) xs.length xs.length (xs.take 0) := ⟨fun _ => 0, fun _ => 0, _, hown1, by simp, fun k x hk => by simp at hk, fun i j hi => by simp at hi⟩
  have hs1 := World.ownsRow.lt hown1 w.heap.size rfl
  clear hown1 hg1
  go_loopw [4] (fun i wr => ∃ k : Nat, k ≤ xs.length ∧ i = .int .i64 k ∧ RowN wr w.heap.size (some ⟨w.heap.size, 0, none⟩) xs.length xs.length (xs.take k) ∧ w.heap.size < wr.heap.size ∧ Below w.heap.size w wr) (fun i _ => xs.length - (intOf i).toNat)
  case atStart => exact ⟨0, Nat.zero_le _, rfl, hF, hs1.2, hb1⟩
  case round =>
    obtain ⟨k, hk, rfl, hf, hs, hb⟩ := hrel
    clear hb1 hF hs1
    by_cases hlt : k < xs.length
    · obtain ⟨b, off, rfl⟩ := h.some_ (by omega)
      obtain ⟨x, hx⟩ : ∃ x, xs[k]? = some x := ⟨_, List.getElem?_eq_getElem hlt⟩
      have hfx := hfit x (List.mem_of_getElem? hx)
      obtain ⟨A', c', c1, c2, c3, h1, h2, h3⟩ := (h.below (hb.mono hB)).at_ hx
      obtain ⟨x1, x2, x3⟩ := x
      simp only at c1 c2 c3 h1 h3 hfx
      have HX := Lib.hid hx
      have HC := Lib.hid (toNode_any x1 x2 A' c' x3 hfx wr (h3.more (Nat.le_trans hB hb.size)))
      clear h hx h3
      go_wp2_with fail
      refine (HC.out).mono ?_; rintro e w2 ⟨⟨bb, hbb, rfl, ho⟩, hb2⟩
      have HM := Lib.hid (hf.more (x := (x1, x2, x3)) (by simp; omega) hb2 hb.size hbb ho)
      replace hf := hf.below hb2 (Nat.le_refl _)
      obtain ⟨v1, d1⟩ := hf.cell (k * 3) (by omega)
      obtain ⟨v2, d2⟩ := hf.cell (k * 3 + 1) (by omega)
      obtain ⟨v3, d3⟩ := hf.cell (k * 3 + 2) (by omega)
      have f1 := hf.free (k * 3)
      have f2 := hf.free (k * 3 + 1)
      have f3 := hf.free (k * 3 + 2)
      have hs2 := hb2.size
      replace hb := below_next (w1 := wr) hb hb2
      clear c1 c2 c3 ho hf hb2
      go_wp2
      go_roundw
      case rel =>
        refine ⟨k + 1, by omega, by go_num, ?_, by simp; omega, ((hb.setCell (p := ⟨w.heap.size, k * 3, none⟩) (Nat.le_refl _) _).setCell (p := ⟨w.heap.size, k * 3 + 1, none⟩) (Nat.le_refl _) _).setCell (p := ⟨w.heap.size, k * 3 + 2, none⟩) (Nat.le_refl _) _⟩
        have := HM.out
        rw [List.length_take, Nat.min_eq_left hk] at this
        rw [take_snoc HX.out]
        exact this
      case measure => simp [intOf]; omega
    · clear h
      go_wp2
      go_ret
      have : k = xs.length := by omega
      subst this
      exact ⟨rfl, by have := hf; rwa [List.take_length] at this, hb⟩
end Go.Proofs.Ytmhneigglmingaa
