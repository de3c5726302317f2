/- Slices of nodes (Id, Before, After []int): words for memory; an argument opened; the laws' helpers szNodeS, toNode, toNodeS, eqNode, eqNodeS. -/
import Derived.Test.YtmhneigglmingaaApp
import Derived.Test.YtmhneigglmingaaPos
import Derived.Deep.Slices
import Derived.Deep.Fields
import Derived.ChangeSame
import Derived.Deep.RegionWith
import Derived.OwnWalk
import Derived.BigQuiet
namespace Go.Proofs.Ytmhneigglmingaa
open Go.RowKit Go.ChangeShapes Go.WideShapes Go.Deep
set_option maxHeartbeats 1000000
set_option linter.unusedVariables false
abbrev Nod := Int × Int × List Int
/-- A slice's address under which the nodes xs lie, below block B. -/
def NodAt (w : World) (B : Nat) (A : Option Addr) (xs : List Nod) : Prop :=
  ∀ (k : Nat) (x : Nod), xs[k]? = some x → ∃ (b off : Nat) (A' : Option Addr) (c' : Nat), A = some ⟨b, off, none⟩ ∧ b < B ∧ w.cell? ⟨b, off + k * 3, none⟩ = some (.int .i64 x.1) ∧ w.cell? ⟨b, off + k * 3 + 1, none⟩ = some (.int .i64 x.2.1) ∧
    w.cell? ⟨b, off + k * 3 + 2, none⟩ = some (.slice A' x.2.2.length c') ∧ x.2.2.length ≤ c' ∧ c' ≤ maxLen ∧ NumsAt .i64 w B A' x.2.2
theorem NodAt.below {w w' : World} {B : Nat} {A : Option Addr} {xs : List Nod} (h : NodAt w B A xs) (hb : Below B w w') : NodAt w' B A xs := by
  intro k x hx
  obtain ⟨b, off, A', c', e, hB, c1, c2, c3, h1, h2, h3⟩ := h k x hx
  exact ⟨b, off, A', c', e, hB, (hb.cell (p := ⟨b, off + k * 3, none⟩) hB).trans c1, (hb.cell (p := ⟨b, off + k * 3 + 1, none⟩) hB).trans c2, (hb.cell (p := ⟨b, off + k * 3 + 2, none⟩) hB).trans c3, h1, h2, h3.below hb⟩
theorem NodAt.drewN {w : World} {B : Nat} {A : Option Addr} {xs : List Nod} (h : NodAt w B A xs) (n : Nat) : NodAt (w.drewN n) B A xs := h
theorem NodAt.some_ {w : World} {B : Nat} {A : Option Addr} {xs : List Nod} (h : NodAt w B A xs) (h0 : 0 < xs.length) : ∃ b off, A = some ⟨b, off, none⟩ := by
  obtain ⟨b, off, _, _, e, _⟩ := h 0 _ (List.getElem?_eq_getElem h0)
  exact ⟨b, off, e⟩
theorem NodAt.at_ {w : World} {B b off k : Nat} {xs : List Nod} {x : Nod} (h : NodAt w B (some ⟨b, off, none⟩) xs) (hx : xs[k]? = some x) : ∃ (A' : Option Addr) (c' : Nat), w.cell? ⟨b, off + k * 3, none⟩ = some (.int .i64 x.1) ∧ w.cell? ⟨b, off + k * 3 + 1, none⟩ = some (.int .i64 x.2.1) ∧
    w.cell? ⟨b, off + k * 3 + 2, none⟩ = some (.slice A' x.2.2.length c') ∧ x.2.2.length ≤ c' ∧ c' ≤ maxLen ∧ NumsAt .i64 w B A' x.2.2 := by
  obtain ⟨b', off', A', c', e, _, r⟩ := h k x hx
  injection e with e
  injection e with e1 e2
  subst e1 e2
  exact ⟨A', c', r⟩
def ArgN (w : World) (A : Option Addr) (c : Nat) (xs : List Nod) : Prop := xs.length ≤ c ∧ c ≤ maxLen ∧ NodAt w w.heap.size A xs
theorem ArgN.none_ {w : World} : ∃ xs : List Nod, xs.length = 0 ∧ ArgN w none 0 xs := ⟨[], rfl, Nat.le_refl _, Nat.zero_le _, fun _ _ h => by simp at h⟩
theorem open_nodes {H : Type} {enc : TypeId × Value → H} {P : Program} {w : World} {base : Nat} {held : Bool} {t e t2 : TypeId} {fs : Array Field} {fuel : Nat} {cs : List Value} {x : DataW H × List MemPlace}
    (ht : P.underlying t = some (.slice e)) (he : P.underlying e = some (.struct fs)) (hone : oneCellFields P fs = true) (hC : P.cellsOf e = 3) (h3 : fs.size = 3)
    (hint : ∀ j, j < 2 → (fs[j]?).map (fun f => P.underlying f.type) = some (some (.int .i64))) (hsl : (fs[2]?).map (fun f => P.underlying f.type) = some (some (.slice t2))) (hel : P.underlying t2 = some (.int .i64)) (hc2 : P.cellsOf t2 = 1)
    (h : DataW.trod enc P w base (fun _ => true) held fuel t cs = some x) :
    cs = [.slice none 0 0] ∨ ∃ (a : Addr) (len cap : Nat) (xs : List Nod), cs = [.slice (some a) len cap] ∧ xs.length = len ∧ ArgN w (some a) cap xs := by
  rcases open_slice ht h with h0 | ⟨a, len, cap, m, n, D, Pl, hcs, hb, hl, hm, hmm, hx, hi⟩
  · exact .inl h0.1
  right
  have hlm : len ≤ m := by rw [hmm]; split <;> omega
  have each : ∀ i, i < len → ∃ (t : Nod) (A' : Option Addr) (c' : Nat), w.cell? (a.add (i * 3)) = some (.int .i64 t.1) ∧ w.cell? (a.add (i * 3 + 1)) = some (.int .i64 t.2.1) ∧ w.cell? (a.add (i * 3 + 2)) = some (.slice A' t.2.2.length c') ∧ t.2.2.length ≤ c' ∧ c' ≤ maxLen ∧ NumsAt .i64 w w.heap.size A' t.2.2 := by
    intro i hi'
    obtain ⟨cs', hc, ht'⟩ := hi i (by omega)
    rw [hC] at hc
    obtain ⟨ys, n', -, -, hlen, hyl, hf⟩ := DataW.trod_struct he ht'
    obtain ⟨-, hcl, hat⟩ := World.cells?_some hc
    have one : ∀ j, j < 2 → ∃ z : Int, w.cell? (a.add (i * 3 + j)) = some (.int .i64 z) := by
      intro j hj
      have hfj : fs[j]? = some (fs[j]'(by omega)) := Array.getElem?_eq_getElem (by omega)
      obtain ⟨ho, hk⟩ := hone_of hone j _ hfj
      have h1 := hf j _ hfj
      have h2 := hint j hj
      rw [hfj] at h2
      simp only [Option.map_some, Option.some.injEq] at h2
      rw [ho, hk] at h1
      have hd : (cs'.drop j).take 1 = [cs'[j]'(by omega)] := by rw [List.drop_eq_getElem_cons (by omega)]; rfl
      rw [hd, List.getElem?_eq_getElem (by omega : j < ys.length)] at h1
      obtain ⟨z, hz, -, -⟩ := DataW.trod_int h2 h1
      refine ⟨z, ?_⟩
      rw [← add_add, hat j (by omega), List.getElem?_eq_getElem (by omega : j < cs'.length)]
      injection hz with hz
      rw [hz]
    obtain ⟨z0, e0⟩ := one 0 (by omega)
    obtain ⟨z1, e1⟩ := one 1 (by omega)
    have hfj : fs[2]? = some (fs[2]'(by omega)) := Array.getElem?_eq_getElem (by omega)
    obtain ⟨ho, hk⟩ := hone_of hone 2 _ hfj
    have h1 := hf 2 _ hfj
    rw [hfj] at hsl
    simp only [Option.map_some, Option.some.injEq] at hsl
    rw [ho, hk] at h1
    have hd : (cs'.drop 2).take 1 = [cs'[2]'(by omega)] := by rw [List.drop_eq_getElem_cons (by omega)]; rfl
    rw [hd, List.getElem?_eq_getElem (by omega : 2 < ys.length)] at h1
    have e2 : w.cell? (a.add (i * 3 + 2)) = some (cs'[2]'(by omega)) := by
      rw [← add_add, hat 2 (by omega), List.getElem?_eq_getElem (by omega : 2 < cs'.length)]
    rcases open_ints hsl hel hc2 h1 with ⟨hcs2, _⟩ | ⟨x2, l2, c2, zs, hcs2, _, hl2, hm2, hz2, _, hcell2, hwz2⟩
    · injection hcs2 with hcs2
      refine ⟨(z0, z1, []), none, 0, e0, e1, ?_, Nat.le_refl _, Nat.zero_le _, NumsAt.nil⟩
      rw [e2, hcs2]; rfl
    · injection hcs2 with hcs2
      obtain ⟨ws, hw1, hw2, hw3, hw4, -⟩ := Arg.row hl2 hm2 (by simpa using hz2) hcell2 hwz2
      exact ⟨(z0, z1, ws), some x2, c2, e0, e1, by rw [e2, hcs2, hw1], hw2, hw3, hw4⟩
  classical
  let g : Nat → Nod := fun i => if hi' : i < len then Classical.choose (each i hi') else (0, 0, [])
  have hg : ∀ i, i < len → ∃ (A' : Option Addr) (c' : Nat), w.cell? (a.add (i * 3)) = some (.int .i64 (g i).1) ∧ w.cell? (a.add (i * 3 + 1)) = some (.int .i64 (g i).2.1) ∧ w.cell? (a.add (i * 3 + 2)) = some (.slice A' (g i).2.2.length c') ∧ (g i).2.2.length ≤ c' ∧ c' ≤ maxLen ∧ NumsAt .i64 w w.heap.size A' (g i).2.2 := by
    intro i hi'
    have := Classical.choose_spec (each i hi')
    simpa only [g, dif_pos hi'] using this
  refine ⟨a, len, cap, (List.range len).map g, hcs, by simp, by simpa using hl, hm, ?_⟩
  intro k x hk
  have hk' : k < len := by have := (List.getElem?_eq_some_iff.1 hk).1; simpa using this
  rw [List.getElem?_map, List.getElem?_range hk'] at hk
  simp only [Option.map_some, Option.some.injEq] at hk
  subst hk
  obtain ⟨_, _, c0, _⟩ := hg 0 (by omega)
  rw [Nat.zero_mul] at c0
  have a0 : a.add 0 = a := by unfold Addr.add; simp
  rw [a0] at c0
  have hs := World.cell?_spot c0
  obtain ⟨A', c', c1, c2, c3, r⟩ := hg k hk'
  have hadd : ∀ j, a.add j = ⟨a.block, a.off + j, none⟩ := by
    intro j
    unfold Addr.add
    split
    · next h => subst h; cases a; simp_all
    · rfl
  exact ⟨a.block, a.off, A', c', by have := hadd 0; rw [a0] at this; rw [this], World.block_lt_of_cell? w _ c0, by rw [← hadd]; exact c1, by rw [Nat.add_assoc, ← hadd]; exact c2, by rw [Nat.add_assoc, ← hadd]; exact c3, r⟩
/-! ### The laws' helpers -/
theorem szInt_any (A : Option Addr) (n c : Nat) (l : Int) (hl : 0 ≤ l) (hl' : l ≤ 1048576) (hn : n ≤ maxLen) (w : World) : Calls Try.prog 51 #[.slice A n c, .int .i64 l] w fun e w' => e = .returned (.int .i64 (if l < n then -1 else l - n)) ∧ w = w' := by
  unfold maxLen at hn
  by_cases h : l < n
  · have H := Lib.hid (show (if l < (n : Int) then (-1 : Int) else l - n) = -1 from if_pos h)
    have h' : l - (n : Int) < 0 := by omega
    go_enter Try.func51, Try.ntmps51
    go_wp2
    go_ret
    exact ⟨ret_int (by first | rfl | exact H.out.symm), rfl⟩
  · have H := Lib.hid (show (if l < (n : Int) then (-1 : Int) else l - n) = l - n from if_neg h)
    have h' : 0 ≤ l - (n : Int) := by omega
    go_enter Try.func51, Try.ntmps51
    go_wp2
    go_ret
    exact ⟨ret_int (by first | rfl | exact H.out.symm), rfl⟩
theorem szNode_any (x y : Int) (A : Option Addr) (n c : Nat) (l : Int) (hl : 0 ≤ l) (hl' : l ≤ 1048576) (hn : n ≤ maxLen) (w : World) : Calls Try.prog 30 #[.agg #[.int .i64 x, .int .i64 y, .slice A n c], .int .i64 l] w fun e w' => e = .returned (.int .i64 (if l < n then -1 else l - n)) ∧ Below w.heap.size w w' := by
  have hb : Below w.heap.size w (w.alloc (.cells #[.int .i64 x, .int .i64 y, .slice A n c] 40 (0, 0))) := (Below.refl _ _).alloc (Nat.le_refl _) _
  by_cases h : l < n
  · have H := Lib.hid (show (if l < (n : Int) then (-1 : Int) else l - n) = -1 from if_pos h)
    have HC := fun W => Lib.hid (szInt_any A n c l hl hl' hn W)
    rw [H.out] at HC
    go_enter Try.func30, Try.ntmps30
    go_wp2_with (go_at_call 51; refine ((HC _).out).mono ?_; rintro e w' ⟨rfl, rfl⟩)
    go_ret
    exact ⟨ret_int (by first | rfl | exact H.out.symm), hb⟩
  · have H := Lib.hid (show (if l < (n : Int) then (-1 : Int) else l - n) = l - n from if_neg h)
    have h' : ¬ l - (n : Int) < 0 := by omega
    have HC := fun W => Lib.hid (szInt_any A n c l hl hl' hn W)
    rw [H.out] at HC
    generalize l - (n : Int) = r at HC h' H
    go_enter Try.func30, Try.ntmps30
    go_wp2_with (go_at_call 51; refine ((HC _).out).mono ?_; rintro e w' ⟨rfl, rfl⟩)
    go_ret
    exact ⟨ret_int (by first | rfl | exact H.out.symm), hb⟩
/-- No list of a node is longer than the laws let in. -/
def fits (xs : List Nod) : Prop := ∀ x ∈ xs, x.2.2.length ≤ 1048576
theorem szNodes_any (B : Nat) (A : Option Addr) (c : Nat) (xs : List Nod) (hl : xs.length ≤ c) (hc : c ≤ maxLen) (w : World) (hB : B ≤ w.heap.size) (h : NodAt w B A xs) :
    Calls Try.prog 9 #[.slice A xs.length c, .int .i64 1048576] w fun e w' => (∃ r : Int, e = .returned (.int .i64 r) ∧ (r < 0 ∨ (xs.length ≤ 1048576 ∧ fits xs))) ∧ Below w.heap.size w w' := by
  unfold maxLen at hc
  by_cases hbig : (1048576 : Int) < xs.length
  · have h' : (1048576 : Int) - (xs.length : Int) < 0 := by omega
    clear h
    go_enter Try.func9, Try.ntmps9
    go_wp2
    go_ret
    exact ⟨⟨_, rfl, .inl (by omega)⟩, Below.refl _ _⟩
  · have h' : ¬ (1048576 : Int) - (xs.length : Int) < 0 := by omega
    go_enter Try.func9, Try.ntmps9
    go_wp2_with fail
    go_loopw [1, 5] (fun l i wr => ∃ (k : Nat) (r : Int), k ≤ xs.length ∧ i = .int .i64 k ∧ l = .int .i64 r ∧ 0 ≤ r ∧ r ≤ 1048576 ∧ (∀ (j : Nat) (x : Nod), j < k → xs[j]? = some x → x.2.2.length ≤ 1048576) ∧ Below w.heap.size w wr) (fun _ i _ => xs.length - (intOf i).toNat)
    case atStart => exact ⟨0, _, Nat.zero_le _, rfl, rfl, by omega, by omega, fun _ _ hj => absurd hj (Nat.not_lt_zero _), Below.refl _ _⟩
    case round =>
      obtain ⟨k, r, hk, rfl, rfl, hr0, hr1, hall, hb⟩ := hrel
      have Hall := Lib.hid hall
      clear hall
      by_cases hlt : k < xs.length
      · obtain ⟨b, off, rfl⟩ := h.some_ (by omega)
        obtain ⟨x, hx⟩ : ∃ x, xs[k]? = some x := ⟨_, List.getElem?_eq_getElem hlt⟩
        obtain ⟨A', c', c1, c2, c3, h1, h2, -⟩ := (h.below (hb.mono hB)).at_ hx
        obtain ⟨x1, x2, x3⟩ := x
        simp only at c1 c2 c3 h1
        have HC := Lib.hid (szNode_any x1 x2 A' x3.length c' r hr0 hr1 (Nat.le_trans h1 h2) wr)
        have HX := Lib.hid hx
        clear h hx
        unfold maxLen at h2
        by_cases hs : r < (x3.length : Int)
        · rw [if_pos hs] at HC
          go_wp2_with fail
          refine HC.out.mono ?_; rintro e w2 ⟨rfl, hb2⟩
          go_wp2
          go_ret
          exact ⟨⟨_, rfl, .inl (by omega)⟩, below_next (w1 := wr) hb hb2⟩
        · rw [if_neg hs] at HC
          have hs' : ¬ r - (x3.length : Int) < 0 := by omega
          go_wp2_with fail
          refine HC.out.mono ?_; rintro e w2 ⟨rfl, hb2⟩
          go_wp2
          go_roundw
          case rel =>
            refine ⟨k + 1, r - (x3.length : Int), by omega, by go_num, rfl, by omega, by omega, fun j y hj hy => ?_, below_next (w1 := wr) hb hb2⟩
            by_cases e : j = k
            · subst e; rw [HX.out] at hy; injection hy with hy; subst hy; show x3.length ≤ 1048576; omega
            · exact Hall.out j y (by omega) hy
          case measure => simp [intOf]; omega
      · clear h
        go_wp2
        go_ret
        refine ⟨⟨_, rfl, .inr ⟨by omega, fun x hx => ?_⟩⟩, hb⟩
        obtain ⟨j, hj⟩ := List.getElem?_of_mem hx
        exact Hall.out j x (by have := (List.getElem?_eq_some_iff.1 hj).1; omega) hj
end Go.Proofs.Ytmhneigglmingaa
