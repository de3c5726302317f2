/- Slices of structs of three integers (Lease, Replica): words for memory; the laws' helpers toLease, eqLease, toLeaseS, eqLeaseS, szLeaseS. -/
import Derived.Test.YtmhmnopmafdmaaaDoorPos
import Derived.Maps.AppendAt
import Derived.Deep.RegionWith
namespace Go.Proofs.YtmhmnopmafdmaaaDoor
open Go.RowKit
set_option maxHeartbeats 400000
set_option linter.unusedVariables false
abbrev Tri := Int × Int × Int
/-- A slice's address under which the structs xs lie, below block B. -/
def TrisAt (w : World) (B : Nat) (A : Option Addr) (xs : List Tri) : Prop :=
  ∀ k, k < xs.length → ∃ (b off : Nat) (x y z : Int), A = some ⟨b, off, none⟩ ∧ b < B ∧ xs[k]? = some (x, y, z) ∧ w.cell? ⟨b, off + k * 3, none⟩ = some (.int .i64 x) ∧ w.cell? ⟨b, off + k * 3 + 1, none⟩ = some (.int .i64 y) ∧ w.cell? ⟨b, off + k * 3 + 2, none⟩ = some (.int .i64 z)
/-- The cells of structs, one behind the other. -/
def tcells (t : Tri) : List Value := [.int .i64 t.1, .int .i64 t.2.1, .int .i64 t.2.2]
def flat (xs : List Tri) : List Value := xs.flatMap tcells
theorem flat_len (xs : List Tri) : (flat xs).length = xs.length * 3 := by
  induction xs with
  | nil => rfl
  | cons a l ih => unfold flat at ih ⊢; rw [List.flatMap_cons, List.length_append, ih, List.length_cons]; simp [tcells]; omega
theorem flat_at (xs : List Tri) : ∀ (k : Nat) (t : Tri), xs[k]? = some t → (flat xs)[k * 3]? = some (.int .i64 t.1) ∧ (flat xs)[k * 3 + 1]? = some (.int .i64 t.2.1) ∧ (flat xs)[k * 3 + 2]? = some (.int .i64 t.2.2) := by
  induction xs with
  | nil => intro k t h; simp at h
  | cons a l ih =>
    intro k t h
    have e : flat (a :: l) = tcells a ++ flat l := by unfold flat; rw [List.flatMap_cons]
    rw [e]
    rcases k with _ | k
    · simp at h; subst h; exact ⟨rfl, rfl, rfl⟩
    · have := ih k t (by simpa using h)
      have hl : (tcells a).length = 3 := rfl
      rw [List.getElem?_append_right (by rw [hl]; omega), List.getElem?_append_right (by rw [hl]; omega), List.getElem?_append_right (by rw [hl]; omega), hl,
        show (k + 1) * 3 - 3 = k * 3 from by omega, show (k + 1) * 3 + 1 - 3 = k * 3 + 1 from by omega, show (k + 1) * 3 + 2 - 3 = k * 3 + 2 from by omega]
      exact this
theorem flat_append (xs ys : List Tri) : flat (xs ++ ys) = flat xs ++ flat ys := by unfold flat; rw [List.flatMap_append]
theorem flat_one (t : Tri) : flat [t] = tcells t := by simp [flat]

/-- A row of structs of the call's own: '.slice A xs.length c'. -/
def OwnT (w : World) (base : Nat) (A : Option Addr) (c : Nat) (xs : List Tri) : Prop :=
  w.ownsRow base 34 3 (.slice A xs.length c) xs.length (flat xs)
theorem OwnT.form {w : World} {base : Nat} {A : Option Addr} {c : Nat} {xs : List Tri} (h : OwnT w base A c xs) : (A = none ∧ c = 0 ∧ xs = []) ∨ ∃ g, A = some ⟨g, 0, none⟩ ∧ base ≤ g ∧ g < w.heap.size := by
  rcases h.2 with ⟨hv, h0⟩ | ⟨g, cap, cur, hv, hb, hg, _⟩
  · injection hv with h1 h2 h3
    exact .inl ⟨h1, h3, List.eq_nil_of_length_eq_zero h0⟩
  · injection hv with h1 h2 h3
    exact .inr ⟨g, h1, hb, (Array.getElem?_eq_some_iff.1 hg).1⟩
theorem OwnT.tris {w : World} {base : Nat} {A : Option Addr} {c : Nat} {xs : List Tri} (h : OwnT w base A c xs) : TrisAt w w.heap.size A xs := by
  intro k hk
  rcases h.form with ⟨_, _, h3⟩ | ⟨g, rfl, _, hlt⟩
  · subst h3; simp at hk
  · obtain ⟨f1, f2, f3⟩ := flat_at xs k xs[k] (List.getElem?_eq_getElem hk)
    have hc : ∀ j u, (flat xs)[j]? = some u → w.cell? ⟨g, j, none⟩ = some u := fun j u hu => by
      have := World.ownsRow.cells h (g := g) rfl j u hu
      have e : (⟨g, 0, none⟩ : Addr).add j = ⟨g, j, none⟩ := by unfold Addr.add; split <;> simp_all
      rwa [e] at this
    exact ⟨g, 0, _, _, _, rfl, hlt, List.getElem?_eq_getElem hk, by rw [Nat.zero_add]; exact hc _ _ f1, by rw [Nat.zero_add]; exact hc _ _ f2, by rw [Nat.zero_add]; exact hc _ _ f3⟩
theorem TrisAt.keep {w w' : World} {B : Nat} {A : Option Addr} {xs : List Tri} (h : TrisAt w B A xs) (hk : ∀ p : Addr, p.block < B → w'.cell? p = w.cell? p) : TrisAt w' B A xs := by
  intro k hlt
  obtain ⟨b, off, x, y, z, e, hb, hx, c1, c2, c3⟩ := h k hlt
  exact ⟨b, off, x, y, z, e, hb, hx, (hk _ hb).trans c1, (hk _ hb).trans c2, (hk _ hb).trans c3⟩
theorem TrisAt.below {w w' : World} {B : Nat} {A : Option Addr} {xs : List Tri} (h : TrisAt w B A xs) (hb : Below B w w') : TrisAt w' B A xs := h.keep fun _ hp => hb.cell hp
theorem TrisAt.drewN {w : World} {B : Nat} {A : Option Addr} {xs : List Tri} (h : TrisAt w B A xs) (n : Nat) : TrisAt (w.drewN n) B A xs := h
theorem OwnT.below {w w' : World} {base B : Nat} {A : Option Addr} {c : Nat} {xs : List Tri} (h : OwnT w base A c xs) (hb : Below B w w') (hB : w.heap.size ≤ B) : OwnT w' base A c xs :=
  World.ownsRow.kept (row := some B) h ⟨hb.os, hb.tape, hb.output, hb.size, fun k hk _ => hb.block k (by omega)⟩
    (.inr fun e => by have := (World.ownsRow.lt h _ e).2; omega)
theorem OwnT.base {w : World} {base base' : Nat} {A : Option Addr} {c : Nat} {xs : List Tri} (h : OwnT w base A c xs) (hB : base' ≤ base) : OwnT w base' A c xs := by
  refine ⟨h.1, ?_⟩
  rcases h.2 with h2 | ⟨g, cap, cur, hv, hg, r⟩
  · exact .inl h2
  · exact .inr ⟨g, cap, cur, hv, by omega, r⟩
/-- The row in block g while it is being filled: the first k structs are there. -/
def FillT (w : World) (g n : Nat) (xs : List Tri) (k : Nat) : Prop :=
  ∃ cs : List Value, w.ownsRow g 34 3 (.slice (some ⟨g, 0, none⟩) n n) n cs ∧ cs.take (k * 3) = flat (xs.take k)
theorem FillT.cell {w : World} {g n k : Nat} {xs : List Tri} (h : FillT w g n xs k) (j : Nat) (hj : j < n * 3) : ∃ v, w.cell? ⟨g, j, none⟩ = some v := by
  obtain ⟨cs, hown, _⟩ := h
  have hl : cs.length = n * 3 := hown.1
  exact ⟨cs[j]'(by omega), by rw [World.ownsRow.cellAt hown j hj]; exact List.getElem?_eq_getElem (by omega)⟩
theorem FillT.free {w : World} {g n k : Nat} {xs : List Tri} (h : FillT w g n xs k) (j : Nat) : w.frozen? ⟨g, j, none⟩ = false := by
  obtain ⟨cs, hown, _⟩ := h
  exact World.ownsRow.frozenAt hown j
theorem take_set3 (cs : List Value) (m : Nat) (a b c : Value) (h : m + 3 ≤ cs.length) : (((cs.set m a).set (m + 1) b).set (m + 2) c).take (m + 3) = cs.take m ++ [a, b, c] := by
  apply List.ext_getElem?
  intro i
  by_cases h1 : i < m
  · rw [List.getElem?_take, if_pos (by omega), List.getElem?_append_left (by simp; omega), List.getElem?_take, if_pos h1]
    rw [List.getElem?_set_ne (by omega), List.getElem?_set_ne (by omega), List.getElem?_set_ne (by omega)]
  · have hm : (cs.take m).length = m := by simp; omega
    rw [List.getElem?_append_right (by omega), hm, List.getElem?_take]
    rcases (by omega : i = m ∨ i = m + 1 ∨ i = m + 2 ∨ m + 3 ≤ i) with h2 | h2 | h2 | h2
    · subst h2
      rw [if_pos (by omega), List.getElem?_set_ne (by omega), List.getElem?_set_ne (by omega), List.getElem?_set_self (by omega), Nat.sub_self]; rfl
    · subst h2
      rw [if_pos (by omega), List.getElem?_set_ne (by omega), List.getElem?_set_self (by simp; omega), show m + 1 - m = 1 from by omega]; rfl
    · subst h2
      rw [if_pos (by omega), List.getElem?_set_self (by simp; omega), show m + 2 - m = 2 from by omega]; rfl
    · rw [if_neg (by omega), List.getElem?_eq_none (by simp; omega)]
theorem FillT.step {w : World} {g n k : Nat} {xs : List Tri} (h : FillT w g n xs k) (hk : k < n) {x y z : Int} (hx : xs[k]? = some (x, y, z)) :
    FillT (((w.setCell ⟨g, k * 3, none⟩ (.int .i64 x)).setCell ⟨g, k * 3 + 1, none⟩ (.int .i64 y)).setCell ⟨g, k * 3 + 2, none⟩ (.int .i64 z)) g n xs (k + 1) := by
  obtain ⟨cs, hown, ht⟩ := h
  have hl : cs.length = n * 3 := hown.1
  refine ⟨_, (World.ownsRow.stored (World.ownsRow.stored (World.ownsRow.stored hown _ _).1 _ _).1 _ _).1, ?_⟩
  rw [show (k + 1) * 3 = k * 3 + 3 from by omega, take_set3 _ _ _ _ _ (by omega), ht, List.take_add_one, hx, flat_append]
  rfl
theorem FillT.keep {w w' : World} {g n k : Nat} {xs : List Tri} (h : FillT w g n xs k) (hb : Below w.heap.size w w') : FillT w' g n xs k := by
  obtain ⟨cs, hown, ht⟩ := h
  exact ⟨cs, World.ownsRow.kept (row := some w.heap.size) hown ⟨hb.os, hb.tape, hb.output, hb.size, fun k hk _ => hb.block k hk⟩
    (.inr fun e => by have := (World.ownsRow.lt hown _ e).2; omega), ht⟩
theorem FillT.all {w : World} {g : Nat} {xs : List Tri} (h : FillT w g xs.length xs xs.length) : OwnT w g (some ⟨g, 0, none⟩) xs.length xs := by
  obtain ⟨cs, hown, ht⟩ := h
  have hl : cs.length = xs.length * 3 := hown.1
  rw [List.take_of_length_le (by omega), List.take_of_length_le (by omega)] at ht
  unfold OwnT
  rw [← ht]; exact hown
theorem toTri_any (x y z : Int) (w : World) : Calls Tryd.prog 16 #[.agg #[.int .i64 x, .int .i64 y, .int .i64 z]] w fun e w' => e = .returned (.agg #[.int .i64 x, .int .i64 y, .int .i64 z]) ∧ Below w.heap.size w w' := by
  go_enter Tryd.func16, Tryd.ntmps16
  go_wp2
  refine bodyPost_ret (v := .agg #[.int .i64 x, .int .i64 y, .int .i64 z]) (by simp [results, Tryd.results16, go_sem]) rfl ⟨rfl, ?_⟩
  repeat (first | exact Below.refl _ _ | (refine Below.drew ?_) | (refine Below.alloc ?_ (by first | (simp; done) | (simp; omega)) _))
theorem eqTri_any (x y z x' y' z' : Int) (w : World) : Calls Tryd.prog 19 #[.agg #[.int .i64 x, .int .i64 y, .int .i64 z], .agg #[.int .i64 x', .int .i64 y', .int .i64 z']] w fun e w' => e = .returned (.bool (decide ((x, y, z) = (x', y', z')))) ∧ Below w.heap.size w w' := by
  by_cases h1 : x = x'
  · subst h1
    by_cases h2 : y = y'
    · subst h2
      by_cases h3 : z = z'
      · subst h3
        go_enter Tryd.func19, Tryd.ntmps19
        go_wp2
        go_ret
        exact ⟨ret_bool (by simp), ((Below.refl _ _).alloc (Nat.le_refl _) _).alloc (by simp) _⟩
      · have h3' : (z != z') = true := by simpa using h3
        go_enter Tryd.func19, Tryd.ntmps19
        go_wp2
        go_ret
        exact ⟨ret_bool (by simp [h3]), ((Below.refl _ _).alloc (Nat.le_refl _) _).alloc (by simp) _⟩
    · have h2' : (y != y') = true := by simpa using h2
      go_enter Tryd.func19, Tryd.ntmps19
      go_wp2
      go_ret
      exact ⟨ret_bool (by simp [h2]), ((Below.refl _ _).alloc (Nat.le_refl _) _).alloc (by simp) _⟩
  · have h1' : (x != x') = true := by simpa using h1
    go_enter Tryd.func19, Tryd.ntmps19
    go_wp2
    go_ret
    exact ⟨ret_bool (by simp [h1]), ((Below.refl _ _).alloc (Nat.le_refl _) _).alloc (by simp) _⟩
theorem szTri_any (A : Option Addr) (n c : Nat) (k : Int) (hk : 0 ≤ k) (hk' : k ≤ 1048576) (hn : n ≤ maxLen) (w : World) : Calls Tryd.prog 4 #[.slice A n c, .int .i64 k] w fun e w' => e = .returned (.int .i64 (if k < n then -1 else k - n)) ∧ w = w' := by
  unfold maxLen at hn
  by_cases h : k < n
  · have H := Lib.hid (show (if k < (n : Int) then (-1 : Int) else k - n) = -1 from if_pos h)
    have h' : k - (n : Int) < 0 := by omega
    go_enter Tryd.func4, Tryd.ntmps4
    go_wp2
    go_ret
    exact ⟨ret_int (by first | rfl | exact H.out.symm), rfl⟩
  · have H := Lib.hid (show (if k < (n : Int) then (-1 : Int) else k - n) = k - n from if_neg h)
    have h' : 0 ≤ k - (n : Int) := by omega
    go_enter Tryd.func4, Tryd.ntmps4
    go_wp2
    go_ret
    exact ⟨ret_int (by first | rfl | exact H.out.symm), rfl⟩
theorem tri_info : (Tryd.prog.info? 34).map (fun i => (i.zero, i.size, i.bytes)) = some (some (.agg #[.int .i64 0, .int .i64 0, .int .i64 0]), 3, 24) := by kernel_rfl
theorem toTriS_any (B : Nat) (A : Option Addr) (c : Nat) (xs : List Tri) (hl : xs.length ≤ 1048576) (w : World) (hB : B ≤ w.heap.size) (h : TrisAt w B A xs) :
    Calls Tryd.prog 6 #[.slice A xs.length c] w fun e w' => e = .returned (.slice (some ⟨w.heap.size, 0, none⟩) xs.length xs.length) ∧ OwnT w' w.heap.size (some ⟨w.heap.size, 0, none⟩) xs.length xs ∧ Below w.heap.size w w' := by
  obtain ⟨i0, hi, hz0, hz1, hz2⟩ := info_parts tri_info
  have HI := Lib.hid hi
  have HZ0 := Lib.hid hz0
  have HZ1 := Lib.hid hz1
  have HZ2 := Lib.hid hz2
  clear hi hz0 hz1 hz2
  go_enter Tryd.func6, Tryd.ntmps6
  go_wp2_with (at_make; refine wpList_make_full w rfl _ _ _ rfl w.heap.size 34 i0 (.agg #[.int .i64 0, .int .i64 0, .int .i64 0]) 3 Tryd.underlying24 HI.out HZ0.out HZ1.out .i64 .i64 _ _ xs.length rfl rfl rfl rfl (by rw [HZ2.out]; omega) (by unfold maxLen; omega) (Nat.le_refl _) ?_; intro w1 hown1 hg1)
  have hb1 : Below w.heap.size w w1 := (Below.refl _ _).grown hg1 (Nat.le_refl _) (by simp)
  have hF : FillT w1 w.heap.size xs.length xs 0 := ⟨_, hown1, by simp [flat]⟩
  have hs1 := World.ownsRow.lt hown1 w.heap.size rfl
  clear hown1 hg1
  go_loopw [4] (fun i wr => ∃ k : Nat, k ≤ xs.length ∧ i = .int .i64 k ∧ FillT wr w.heap.size xs.length xs k ∧ w.heap.size < wr.heap.size ∧ Below w.heap.size w wr) (fun i _ => xs.length - (intOf i).toNat)
  case atStart => exact ⟨0, Nat.zero_le _, rfl, hF, hs1.2, hb1⟩
  case round =>
    obtain ⟨k, hk, rfl, hf, hs, hb⟩ := hrel
    clear hb1 hF hs1
    by_cases hlt : k < xs.length
    · obtain ⟨b, off, x, y, z, rfl, hbB, hx, c1, c2, c3⟩ := (h.below (hb.mono hB)) k hlt
      have HX := Lib.hid hx
      clear h hx
      go_wp2_with fail
      refine (toTri_any _ _ _ _).mono ?_; rintro e w2 ⟨rfl, hb2⟩
      replace hf := hf.keep hb2
      obtain ⟨v1, d1⟩ := hf.cell (k * 3) (by omega)
      obtain ⟨v2, d2⟩ := hf.cell (k * 3 + 1) (by omega)
      obtain ⟨v3, d3⟩ := hf.cell (k * 3 + 2) (by omega)
      have f1 := hf.free (k * 3)
      have f2 := hf.free (k * 3 + 1)
      have f3 := hf.free (k * 3 + 2)
      have hs2 := hb2.size
      replace hb := below_next (w1 := wr) hb hb2
      clear c1 c2 c3
      go_wp2
      go_roundw
      case rel => exact ⟨k + 1, by omega, by go_num, hf.step hlt HX.out, by simp; omega, ((hb.setCell (p := ⟨w.heap.size, k * 3, none⟩) (Nat.le_refl _) _).setCell (p := ⟨w.heap.size, k * 3 + 1, none⟩) (Nat.le_refl _) _).setCell (p := ⟨w.heap.size, k * 3 + 2, none⟩) (Nat.le_refl _) _⟩
      case measure => simp [intOf]; omega
    · clear h
      go_wp2
      go_ret
      have : k = xs.length := by omega
      subst this
      exact ⟨rfl, hf.all, hb⟩
def eqToT (xs ys : List Tri) (k : Nat) : Prop := ∀ i, i < k → xs[i]? = ys[i]?
theorem eqToT_end {xs ys : List Tri} (hl : xs.length = ys.length) (h : eqToT xs ys xs.length) : xs = ys := by
  apply List.ext_getElem?
  intro i
  by_cases hi : i < xs.length
  · exact h i hi
  · rw [List.getElem?_eq_none (by omega), List.getElem?_eq_none (by omega)]
theorem eqToT_step {xs ys : List Tri} {k : Nat} {x : Tri} (h : eqToT xs ys k) (hx : xs[k]? = some x) (hy : ys[k]? = some x) : eqToT xs ys (k + 1) := by
  intro i hi
  by_cases h' : i = k
  · rw [h', hx, hy]
  · exact h i (by omega)
theorem eqTriS_any (B : Nat) (A A' : Option Addr) (c c' : Nat) (xs ys : List Tri) (hlx : xs.length ≤ maxLen) (hly : ys.length ≤ maxLen) (w : World) (hB : B ≤ w.heap.size) (h : TrisAt w B A xs) (h' : TrisAt w B A' ys) :
    Calls Tryd.prog 8 #[.slice A xs.length c, .slice A' ys.length c'] w fun e w' => e = .returned (.bool (decide (xs = ys))) ∧ Below w.heap.size w w' := by
  unfold maxLen at hlx hly
  by_cases hl : xs.length = ys.length
  · have hl' : ((xs.length : Int) != (ys.length : Int)) = false := by simp; omega
    have HL := Lib.hid hl
    clear hl
    go_enter Tryd.func8, Tryd.ntmps8
    go_wp2
    go_loopw [5] (fun i wr => ∃ k : Nat, k ≤ xs.length ∧ i = .int .i64 k ∧ eqToT xs ys k ∧ Below w.heap.size w wr) (fun i _ => xs.length - (intOf i).toNat)
    case atStart => exact ⟨0, Nat.zero_le _, rfl, fun i hi => absurd hi (by omega), Below.refl _ _⟩
    case round =>
      obtain ⟨k, hk, rfl, hall, hb⟩ := hrel
      have Hall := Lib.hid hall
      replace h := h.below (hb.mono hB)
      replace h' := h'.below (hb.mono hB)
      clear hall
      by_cases hlt : k < xs.length
      · have hlt' : k < ys.length := by have := HL.out; omega
        obtain ⟨b, o, x, y, z, rfl, -, hx, c1, c2, c3⟩ := h k hlt
        obtain ⟨b', o', x', y', z', rfl, -, hy, d1, d2, d3⟩ := h' k hlt'
        have HX := Lib.hid hx
        have HY := Lib.hid hy
        clear h h' hx hy
        have HQ := fun W => Lib.hid (eqTri_any x y z x' y' z' W)
        by_cases hxy : (x, y, z) = (x', y', z')
        · have HS := Lib.hid (eqToT_step Hall.out HX.out (by rw [HY.out, hxy]))
          have HT := Lib.hid (show decide ((x, y, z) = (x', y', z')) = true from decide_eq_true hxy)
          clear hxy
          go_wp2
          go_region_with (go_at_call 19; refine ((HQ _).out).mono ?_; rw [HT.out]; rintro e w2 ⟨rfl, hb2⟩)
          all_goals
            go_wp2
            go_roundw
            case rel => exact ⟨k + 1, by omega, by go_num, HS.out, below_next hb (below_undrew hb2)⟩
            case measure => simp [intOf]; omega
        · have HN := Lib.hid (show decide (xs = ys) = false from by
            rw [decide_eq_false_iff_not]; intro e; rw [e, HY.out] at HX; injection HX.out with e'; exact hxy e'.symm)
          have HT := Lib.hid (show decide ((x, y, z) = (x', y', z')) = false from decide_eq_false hxy)
          clear hxy
          go_wp2
          go_region_with (go_at_call 19; refine ((HQ _).out).mono ?_; rw [HT.out]; rintro e w2 ⟨rfl, hb2⟩)
          all_goals
            go_wp2
            go_ret
            exact ⟨ret_bool HN.out.symm, below_next hb (below_undrew hb2)⟩
      · clear h h'
        have HE := Lib.hid (show decide (xs = ys) = true from by
          rw [decide_eq_true_iff]; refine eqToT_end HL.out ?_; have : k = xs.length := by omega
          rw [← this]; exact Hall.out)
        go_wp2
        go_ret
        exact ⟨ret_bool HE.out.symm, hb⟩
  · have hl' : ((xs.length : Int) != (ys.length : Int)) = true := by simp; omega
    have HN := Lib.hid (show decide (xs = ys) = false from by rw [decide_eq_false_iff_not]; intro e; rw [e] at hl; exact hl rfl)
    clear hl
    go_enter Tryd.func8, Tryd.ntmps8
    go_wp2
    go_ret
    exact ⟨ret_bool HN.out.symm, Below.refl _ _⟩
end Go.Proofs.YtmhmnopmafdmaaaDoor
