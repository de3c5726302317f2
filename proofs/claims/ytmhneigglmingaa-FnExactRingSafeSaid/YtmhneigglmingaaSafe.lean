/- Walks: RingSafe of the implementation and of the reference. -/
import Derived.Test.YtmhneigglmingaaPri
namespace Go.Proofs.Ytmhneigglmingaa
open Go.RowKit
set_option maxHeartbeats 2000000
set_option linter.unusedVariables false
/-- The place of the first node with a position, or -1. -/
def fnd (id : Int) : Nat → List Nod → Int
  | _, [] => -1
  | i, x :: l => if x.1 = id then (i : Int) else fnd id (i + 1) l
def hasId (xs : List Nod) (id : Int) : Bool := xs.any fun n => decide (n.1 = id)
theorem fnd_has (id : Int) (l : List Nod) : ∀ i : Nat, decide (0 ≤ fnd id i l) = hasId l id := by
  induction l with
  | nil => intro i; rfl
  | cons x l ih =>
    intro i
    unfold fnd hasId
    rw [List.any_cons]
    by_cases h : x.1 = id
    · rw [if_pos h]; simp [h]
    · rw [if_neg h, ih]; simp [h, hasId]
theorem fnd_lt (id : Int) (l : List Nod) : ∀ i : Nat, fnd id i l < i + l.length := by
  induction l with
  | nil => intro i; simp only [fnd, List.length_nil]; omega
  | cons x l ih =>
    intro i
    unfold fnd
    simp only [List.length_cons]
    by_cases h : x.1 = id
    · rw [if_pos h]; omega
    · rw [if_neg h]; have := ih (i + 1); push_cast at this ⊢; omega
theorem fnd_neg (id : Int) (l : List Nod) : ∀ i : Nat, fnd id i l < 0 → fnd id i l = -1 := by
  induction l with
  | nil => intro i _; rfl
  | cons x l ih =>
    intro i
    unfold fnd
    by_cases h : x.1 = id
    · rw [if_pos h]; omega
    · rw [if_neg h]; exact ih _
/-- Every node has a live successor, and enough nodes are principals. -/
def sfe (xs : List Nod) : Bool := (xs.all fun n => n.2.2.any (hasId xs)) && decide (3 ≤ (pr xs).length)
def rsf (xs : List Nod) : Bool := rgVal xs && sfe xs
theorem any_take_int {xs : List Int} {k : Nat} {x : Int} (h : xs[k]? = some x) (p : Int → Bool) : (xs.take (k + 1)).any p = ((xs.take k).any p || p x) := by rw [take_snoc h]; simp
theorem all_take_nod {xs : List Nod} {k : Nat} {x : Nod} (h : xs[k]? = some x) (p : Nod → Bool) : (xs.take (k + 1)).all p = ((xs.take k).all p && p x) := by rw [take_snoc h]; simp
theorem sfe_no {xs : List Nod} {k : Nat} {x : Nod} (h : xs[k]? = some x) (hx : x.2.2.any (hasId xs) = false) : sfe xs = false := by
  unfold sfe
  rw [show (xs.all fun n => n.2.2.any (hasId xs)) = false from by rw [List.all_eq_false]; exact ⟨x, List.mem_of_getElem? h, by rw [hx]; simp⟩]
  rfl
theorem sfe_yes {xs : List Nod} (h : (xs.take xs.length).all (fun n => n.2.2.any (hasId xs)) = true) : sfe xs = decide (3 ≤ ((pr xs).length : Int)) := by
  rw [List.take_length] at h
  unfold sfe; rw [h, Bool.true_and]; congr 1; rw [eq_iff_iff]; omega
/-! ### The implementation -/
theorem naFn_any (x1 x2 : Int) (A : Option Addr) (n c : Nat) (id : Int) (pb : Nat) (w : World) (hp : w.cell? ⟨pb, 0, none⟩ = some (.int .i64 id)) :
    Calls Try.prog 64 #[.agg #[.int .i64 x1, .int .i64 x2, .slice A n c], .pointer (some ⟨pb, 0, none⟩)] w fun e w' => e = .returned (.bool (x1 == id)) ∧ Below w.heap.size w w' := by
  have hlt := World.block_lt_of_cell? w _ hp
  have hA : Below w.heap.size w (w.alloc (.cells #[.int .i64 x1, .int .i64 x2, .slice A n c] 41 (0, 0))) := (Below.refl _ _).alloc (Nat.le_refl _) _
  have hp2 := (hA.cell hlt).trans hp
  go_enter Try.func64, Try.ntmps64
  go_wp2
  go_ret
  exact ⟨rfl, by first | exact hA | exact hA.drew⟩
theorem idxAt_any (B : Nat) (A : Option Addr) (c : Nat) (xs : List Nod) (hl : xs.length ≤ 10) (id : Int) (pb : Nat) (w : World) (hB : B ≤ w.heap.size) (h : NodAt w B A xs) (hk : w.cell? ⟨pb, 0, none⟩ = some (.int .i64 id)) :
    Calls Try.prog 57 #[.slice A xs.length c, .func (.func 64) #[] #[.pointer (some ⟨pb, 0, none⟩)]] w fun e w' => e = .returned (.int .i64 (fnd id 0 xs)) ∧ Below w.heap.size w w' := by
  have hkb := World.block_lt_of_cell? w _ hk
  go_enter Try.func57, Try.ntmps57
  go_wp2
  go_loopw [8] (fun i wr => ∃ k : Nat, k ≤ xs.length ∧ i = .int .i64 k ∧ fnd id 0 xs = fnd id k (xs.drop k) ∧ Below w.heap.size w wr) (fun i _ => xs.length - (intOf i).toNat)
  case atStart => exact ⟨0, Nat.zero_le _, rfl, rfl, Below.refl _ _⟩
  case round =>
    obtain ⟨k, hk', rfl, hall, hb⟩ := hrel
    have hkr := (hb.cell hkb).trans hk
    clear hk
    by_cases hlt : k < xs.length
    · obtain ⟨b, off, rfl⟩ := h.some_ (by omega)
      obtain ⟨x, hx⟩ : ∃ x, xs[k]? = some x := ⟨_, List.getElem?_eq_getElem hlt⟩
      obtain ⟨A1, c1', c1, c2, c3, -, -, -⟩ := (h.below (hb.mono hB)).at_ hx
      rw [List.drop_eq_getElem_cons hlt] at hall
      rw [List.getElem?_eq_getElem hlt] at hx
      injection hx with hx
      rw [hx] at hall
      obtain ⟨x1, x2, x3⟩ := x
      simp only at c1 c2 c3
      simp only [fnd] at hall
      have HFN := Lib.hid (naFn_any x1 x2 A1 x3.length c1' id pb wr hkr)
      clear h hx
      by_cases hp : x1 = id
      · subst hp
        rw [beq_self_eq_true] at HFN
        rw [if_pos rfl] at hall
        have HH := Lib.hid hall
        clear hall
        go_wp2_with fail
        refine HFN.out.mono ?_; rintro e w2 ⟨rfl, hb2⟩
        go_wp2
        go_ret
        exact ⟨ret_int (by rw [HH.out]), below_next (w1 := wr) hb hb2⟩
      · rw [show (x1 == id) = false from by simpa using hp] at HFN
        rw [if_neg hp] at hall
        have HH := Lib.hid hall
        clear hall
        go_wp2_with fail
        refine HFN.out.mono ?_; rintro e w2 ⟨rfl, hb2⟩
        go_wp2
        go_roundw
        case rel => exact ⟨k + 1, by omega, by go_num, HH.out, below_next (w1 := wr) hb hb2⟩
        case measure => simp [intOf]; omega
    · clear h
      have : k = xs.length := by omega
      subst this
      rw [List.drop_length] at hall
      have HA := Lib.hid hall
      clear hall
      go_wp2
      go_ret
      exact ⟨ret_int (by rw [HA.out]; rfl), hb⟩
theorem nodeAt_any (B : Nat) (A : Option Addr) (c : Nat) (xs : List Nod) (hl : xs.length ≤ 10) (id : Int) (w : World) (hB : B ≤ w.heap.size) (h : NodAt w B A xs) :
    Calls Try.prog 49 #[.slice A xs.length c, .int .i64 id] w fun e w' => (∃ p : Option Addr, e = .returned (.pointer p) ∧ p.isSome = hasId xs id) ∧ Below w.heap.size w w' := by
  have hA : Below w.heap.size w (w.alloc (.cells #[.int .i64 id] 3 (0, 0))) := (Below.refl _ _).alloc (Nat.le_refl _) _
  have hk : (w.alloc (.cells #[.int .i64 id] 3 (0, 0))).cell? ⟨w.heap.size, 0, none⟩ = some (.int .i64 id) := by rw [cell_of_row _ _ _ _ _ _ (heap_alloc_new w _)]; rfl
  have HC := Lib.hid (idxAt_any B A c xs hl id w.heap.size (w.alloc (.cells #[.int .i64 id] 3 (0, 0))) (by simp; omega) (h.below (hA.mono hB)) hk)
  have HF := Lib.hid (fnd_has id xs 0)
  have hlt : fnd id 0 xs < (xs.length : Int) := by have := fnd_lt id xs 0; omega
  have hne := fnd_neg id xs 0
  generalize fnd id 0 xs = r at HC HF hlt hne
  by_cases hr : r < 0
  · have := hne hr
    subst this
    have HN := Lib.hid (show hasId xs id = false from by rw [← HF.out]; rfl)
    clear h hk hlt hne hr
    go_enter Try.func49, Try.ntmps49
    go_wp2_with fail
    refine HC.out.mono ?_; rintro e w2 ⟨rfl, hb⟩
    go_wp2
    go_ret
    exact ⟨⟨none, rfl, by rw [HN.out]; rfl⟩, below_next hA hb⟩
  · have HN := Lib.hid (show hasId xs id = true from by rw [← HF.out]; simp; omega)
    obtain ⟨m, rfl⟩ : ∃ m : Nat, r = m := ⟨r.toNat, by omega⟩
    have hm : m < xs.length := by omega
    obtain ⟨b, off, rfl⟩ := h.some_ (by omega)
    clear h hk hlt hne hr
    go_enter Try.func49, Try.ntmps49
    go_wp2_with fail
    refine HC.out.mono ?_; rintro e w2 ⟨rfl, hb⟩
    go_wp2
    go_ret
    exact ⟨⟨_, rfl, by rw [HN.out]; rfl⟩, below_next hA hb⟩
theorem live_any (B : Nat) (A : Option Addr) (c : Nat) (xs : List Nod) (hl : xs.length ≤ 10) (id : Int) (pb : Nat) (w : World) (hB : B ≤ w.heap.size) (h : NodAt w B A xs) (hp : w.cell? ⟨pb, 0, none⟩ = some (.slice A xs.length c)) :
    Calls Try.prog 48 #[.int .i64 id, .pointer (some ⟨pb, 0, none⟩)] w fun e w' => e = .returned (.bool (hasId xs id)) ∧ Below w.heap.size w w' := by
  have HC := Lib.hid (nodeAt_any B A c xs hl id w hB h)
  clear h
  go_enter Try.func48, Try.ntmps48
  go_wp2_with fail
  refine HC.out.mono ?_; rintro e w2 ⟨⟨p, rfl, hp'⟩, hb⟩
  have HP := Lib.hid hp'
  clear hp'
  cases p with
  | none =>
    go_wp2
    go_ret
    exact ⟨ret_bool (by rw [← HP.out]; rfl), hb⟩
  | some a =>
    go_wp2
    go_ret
    exact ⟨ret_bool (by rw [← HP.out]; rfl), hb⟩
theorem idxLive_any (B : Nat) (A : Option Addr) (c : Nat) (xs : List Nod) (hl : xs.length ≤ 10) (A1 : Option Addr) (c1 : Nat) (l : List Int) (hl1 : l.length ≤ 1048576) (pb : Nat) (w : World) (hB : B ≤ w.heap.size) (h : NodAt w B A xs) (hn : NumsAt .i64 w B A1 l) (hp : w.cell? ⟨pb, 0, none⟩ = some (.slice A xs.length c)) :
    Calls Try.prog 65 #[.slice A1 l.length c1, .func (.func 48) #[] #[.pointer (some ⟨pb, 0, none⟩)]] w fun e w' => (∃ r : Int, e = .returned (.int .i64 r) ∧ decide (0 ≤ r) = l.any (hasId xs)) ∧ Below w.heap.size w w' := by
  have hkb := World.block_lt_of_cell? w _ hp
  go_enter Try.func65, Try.ntmps65
  go_wp2
  go_loopw [8] (fun i wr => ∃ k : Nat, k ≤ l.length ∧ i = .int .i64 k ∧ (l.take k).any (hasId xs) = false ∧ Below w.heap.size w wr) (fun i _ => l.length - (intOf i).toNat)
  case atStart => exact ⟨0, Nat.zero_le _, rfl, rfl, Below.refl _ _⟩
  case round =>
    obtain ⟨k, hk', rfl, hall, hb⟩ := hrel
    have hkr := (hb.cell hkb).trans hp
    clear hp
    by_cases hlt : k < l.length
    · obtain ⟨ad, z, rfl, -, hz, hc⟩ := (hn.below (hb.mono hB)) k hlt
      have HS := Lib.hid (show (l.take (k + 1)).any (hasId xs) = (false || hasId xs z) from by rw [any_take_int hz, hall])
      have HM := List.mem_of_getElem? hz
      have HT : hasId xs z = true → l.any (hasId xs) = true := fun e => List.any_eq_true.2 ⟨_, HM, e⟩
      have HFN := Lib.hid (live_any B A c xs hl z pb wr (Nat.le_trans hB hb.size) (h.below (hb.mono hB)) hkr)
      clear h hn hz hall HM hkr
      cases hh : hasId xs z
      · rw [hh] at HFN HS
        clear HT
        go_wp2_with fail
        refine HFN.out.mono ?_; rintro e w2 ⟨rfl, hb2⟩
        go_wp2
        go_roundw
        case rel => exact ⟨k + 1, by omega, by go_num, by rw [HS.out]; rfl, below_next (w1 := wr) hb hb2⟩
        case measure => simp [intOf]; omega
      · rw [hh] at HFN
        have HT' := Lib.hid (HT hh)
        clear HT HS
        go_wp2_with fail
        refine HFN.out.mono ?_; rintro e w2 ⟨rfl, hb2⟩
        go_wp2
        go_ret
        exact ⟨⟨_, rfl, by rw [HT'.out]; simp⟩, below_next (w1 := wr) hb hb2⟩
    · clear h hn
      have : k = l.length := by omega
      subst this
      rw [List.take_length] at hall
      have HA := Lib.hid hall
      clear hall
      go_wp2
      go_ret
      exact ⟨⟨_, rfl, by rw [HA.out]; rfl⟩, hb⟩
theorem contLive_any (B : Nat) (A : Option Addr) (c : Nat) (xs : List Nod) (hl : xs.length ≤ 10) (A1 : Option Addr) (c1 : Nat) (l : List Int) (hl1 : l.length ≤ 1048576) (pb : Nat) (w : World) (hB : B ≤ w.heap.size) (h : NodAt w B A xs) (hn : NumsAt .i64 w B A1 l) (hp : w.cell? ⟨pb, 0, none⟩ = some (.slice A xs.length c)) :
    Calls Try.prog 50 #[.slice A1 l.length c1, .func (.func 48) #[] #[.pointer (some ⟨pb, 0, none⟩)]] w fun e w' => e = .returned (.bool (l.any (hasId xs))) ∧ Below w.heap.size w w' := by
  have HC := Lib.hid (idxLive_any B A c xs hl A1 c1 l hl1 pb w hB h hn hp)
  clear h hn hp
  go_enter Try.func50, Try.ntmps50
  go_wp2_with fail
  refine HC.out.mono ?_; rintro e w' ⟨⟨r, rfl, hr⟩, hb⟩
  have HR := Lib.hid hr
  clear hr
  go_wp2
  go_ret
  exact ⟨ret_bool HR.out, hb⟩
theorem rsf_impl (B : Nat) (A : Option Addr) (c : Nat) (xs : List Nod) (hl : xs.length ≤ c) (hc : c ≤ maxLen) (w : World) (hB : B ≤ w.heap.size) (h : NodAt w B A xs) :
    Calls Try.prog 29 #[.slice A xs.length c] w fun e w' => e = .returned (.bool (rsf xs)) ∧ Below w.heap.size w w' := by
  obtain ⟨W0, hW0⟩ : ∃ W0, W0 = w.alloc (.cells #[.slice A xs.length c] 25 (0, 0)) := ⟨_, rfl⟩
  have hA : Below w.heap.size w W0 := by rw [hW0]; exact (Below.refl _ _).alloc (Nat.le_refl _) _
  have hp0 : W0.cell? ⟨w.heap.size, 0, none⟩ = some (.slice A xs.length c) := by rw [hW0, cell_of_row _ _ _ _ _ _ (heap_alloc_new w _)]; rfl
  have hlt0 : w.heap.size < W0.heap.size := by rw [hW0]; simp
  have HV := Lib.hid (rv_impl B A c xs hl hc W0 (Nat.le_trans hB hA.size) (h.below (hA.mono hB)))
  have HW0 := Lib.hid hW0
  clear hW0
  cases hv : rgVal xs
  · have H := Lib.hid (show rsf xs = false from by unfold rsf; rw [hv]; rfl)
    clear h
    go_enter Try.func29, Try.ntmps29
    go_wp2_with fail
    rw [← HW0.out]
    refine (HV.out).mono ?_; rw [hv]; rintro e w1 ⟨rfl, hb⟩
    go_wp2
    go_ret
    exact ⟨ret_bool H.out.symm, below_next hA hb⟩
  · have H := Lib.hid (show rsf xs = sfe xs from by unfold rsf; rw [hv]; rfl)
    have hl10 := rg_len hv
    have HR := fun (W : World) (hW : Below w.heap.size w W) => Lib.hid (rpr_impl B A c xs hl hc W (Nat.le_trans hB hW.size) (h.below (hW.mono hB)))
    rw [rpr_yes hv] at HR
    go_enter Try.func29, Try.ntmps29
    go_wp2_with fail
    rw [← HW0.out]
    refine (HV.out).mono ?_; rw [hv]; rintro e w1 ⟨rfl, hb1⟩
    have hp1 := (hb1.cell (p := ⟨w.heap.size, 0, none⟩) hlt0).trans hp0
    have hB1 := below_next hA hb1
    have hlt1 : w.heap.size < w1.heap.size := Nat.lt_of_lt_of_le hlt0 hb1.size
    have HVV := Lib.hid hv
    clear HV hv hA hp0 hlt0 hb1 HW0
    go_wp2_with fail
    go_loopw [12] (fun i wr => ∃ k : Nat, k ≤ xs.length ∧ i = .int .i64 k ∧ (xs.take k).all (fun n => n.2.2.any (hasId xs)) = true ∧ wr.cell? ⟨w.heap.size, 0, none⟩ = some (.slice A xs.length c) ∧ w.heap.size < wr.heap.size ∧ Below w.heap.size w wr) (fun i _ => xs.length - (intOf i).toNat)
    case atStart => exact ⟨0, Nat.zero_le _, rfl, rfl, hp1, hlt1, hB1⟩
    case round =>
      obtain ⟨k, hk, rfl, hall, hp, hltr, hb⟩ := hrel
      clear hp1 hlt1 hB1
      by_cases hlt : k < xs.length
      · obtain ⟨b, off, rfl⟩ := h.some_ (by omega)
        obtain ⟨x, hx⟩ : ∃ x, xs[k]? = some x := ⟨_, List.getElem?_eq_getElem hlt⟩
        have hwr := h.below (hb.mono hB)
        obtain ⟨A1, c1', c1, c2, c3, -, -, h3⟩ := hwr.at_ hx
        have h2 : x.2.2.length ≤ 1048576 := by have := (rg_node HVV.out hx).2.1; omega
        have HN := Lib.hid (sfe_no hx)
        have HY := Lib.hid (show (xs.take (k + 1)).all (fun n => n.2.2.any (hasId xs)) = (true && x.2.2.any (hasId xs)) from by rw [all_take_nod hx, hall])
        obtain ⟨x1, x2, x3⟩ := x
        simp only at c1 c2 c3 h2 h3 HN HY
        obtain ⟨WA, hWA⟩ : ∃ WA, WA = wr.alloc (.cells #[.int .i64 x1, .int .i64 x2, .slice A1 x3.length c1'] 41 (0, 0)) := ⟨_, rfl⟩
        have hAl : Below wr.heap.size wr WA := by rw [hWA]; exact (Below.refl _ _).alloc (Nat.le_refl _) _
        have hpA := (hAl.cell (p := ⟨w.heap.size, 0, none⟩) hltr).trans hp
        have HC := Lib.hid (contLive_any B (some ⟨b, off, none⟩) c xs hl10 A1 c1' x3 h2 w.heap.size WA (Nat.le_trans hB (Nat.le_trans hb.size hAl.size)) (hwr.below (hAl.mono (Nat.le_trans hB hb.size))) (h3.below (hAl.mono (Nat.le_trans hB hb.size))) hpA)
        have HWA := Lib.hid hWA
        have hltA : w.heap.size < WA.heap.size := Nat.lt_of_lt_of_le hltr hAl.size
        have hbA := below_next hb hAl
        clear h hx hwr hWA h3 hall hAl hb
        cases hs : x3.any (hasId xs)
        · rw [hs] at HC
          replace HN := Lib.hid (HN.out hs)
          clear HY
          go_wp2_with fail
          rw [← HWA.out]
          refine (HC.out).mono ?_; rintro e w2 ⟨rfl, hb2⟩
          go_wp2
          go_ret
          exact ⟨ret_bool (by rw [H.out, HN.out]), below_next hbA hb2⟩
        · rw [hs] at HC HY
          clear HN
          go_wp2_with fail
          rw [← HWA.out]
          refine (HC.out).mono ?_; rintro e w2 ⟨rfl, hb2⟩
          have hp2 := (hb2.cell (p := ⟨w.heap.size, 0, none⟩) hltA).trans hpA
          have hlt2 : w.heap.size < w2.heap.size := Nat.lt_of_lt_of_le hltA hb2.size
          have hb3 := below_next hbA hb2
          clear HC hb2 hpA hltA hbA HWA
          go_wp2
          go_roundw
          case rel => exact ⟨k + 1, by omega, by go_num, by rw [HY.out]; rfl, hp2, hlt2, hb3⟩
          case measure => simp [intOf]; omega
      · clear h
        have : k = xs.length := by omega
        subst this
        have HE := Lib.hid (sfe_yes hall)
        have HR1 := HR wr hb
        clear hall HR
        go_wp2_with fail
        refine (HR1.out).mono ?_; rintro e w2 ⟨A2, c2, rfl, -, hb2⟩
        go_wp2
        go_ret
        exact ⟨ret_bool (by rw [H.out, HE.out]), below_next hb hb2⟩
/-! ### The reference -/
theorem find_any (B : Nat) (A : Option Addr) (c : Nat) (xs : List Nod) (hl : xs.length ≤ 10) (id : Int) (w : World) (h : NodAt w B A xs) :
    Calls Try.prog 63 #[.slice A xs.length c, .int .i64 id] w fun e w' => e = .returned (.int .i64 (fnd id 0 xs)) ∧ w' = w := by
  go_enter Try.func63, Try.ntmps63
  go_wp2
  go_loop [5] (fun i => ∃ k : Nat, k ≤ xs.length ∧ i = .int .i64 k ∧ fnd id 0 xs = fnd id k (xs.drop k)) (fun i => xs.length - (intOf i).toNat)
  case atStart => exact ⟨0, Nat.zero_le _, rfl, rfl⟩
  case round =>
    obtain ⟨k, hk', rfl, hall⟩ := hrel
    by_cases hlt : k < xs.length
    · obtain ⟨b, off, rfl⟩ := h.some_ (by omega)
      obtain ⟨x, hx⟩ : ∃ x, xs[k]? = some x := ⟨_, List.getElem?_eq_getElem hlt⟩
      obtain ⟨A1, c1', c1, c2, c3, -, -, -⟩ := h.at_ hx
      rw [List.drop_eq_getElem_cons hlt] at hall
      rw [List.getElem?_eq_getElem hlt] at hx
      injection hx with hx
      rw [hx] at hall
      obtain ⟨x1, x2, x3⟩ := x
      simp only at c1 c2 c3
      simp only [fnd] at hall
      clear h hx
      by_cases hp : x1 = id
      · subst hp
        rw [if_pos rfl] at hall
        have HH := Lib.hid hall
        clear hall
        go_wp2
        go_ret
        exact ⟨ret_int (by rw [HH.out]), rfl⟩
      · rw [if_neg hp] at hall
        have HH := Lib.hid hall
        have hp' : (x1 == id) = false := by simpa using hp
        clear hall
        go_wp2
        go_round
        case rel => exact ⟨k + 1, by omega, by go_num, HH.out⟩
        case measure => simp [intOf]; omega
    · clear h
      have : k = xs.length := by omega
      subst this
      rw [List.drop_length] at hall
      have HA := Lib.hid hall
      clear hall
      go_wp2
      go_ret
      exact ⟨ret_int (by rw [HA.out]; rfl), rfl⟩
theorem find_dec {xs : List Nod} {id : Int} {b : Bool} (h : hasId xs id = b) : decide (0 ≤ fnd id 0 xs) = b := by rw [fnd_has, h]
theorem sfe_spec (B : Nat) (A : Option Addr) (c : Nat) (xs : List Nod) (hv : rgVal xs = true) (w : World) (hB : B ≤ w.heap.size) (h : NodAt w B A xs) :
    Calls Try.prog 47 #[.slice A xs.length c] w fun e w' => e = .returned (.bool (sfe xs)) ∧ Below w.heap.size w w' := by
  have hl10 := rg_len hv
  have HR := fun (W : World) (hW : Below w.heap.size w W) => Lib.hid (pri_spec B A c xs hv W (Nat.le_trans hB hW.size) (h.below (hW.mono hB)))
  have HV := Lib.hid hv
  clear hv
  go_enter Try.func47, Try.ntmps47
  go_wp2_with fail
  go_loopw [3] (fun i wr => ∃ k : Nat, k ≤ xs.length ∧ i = .int .i64 k ∧ (xs.take k).all (fun n => n.2.2.any (hasId xs)) = true ∧ Below w.heap.size w wr) (fun i _ => xs.length - (intOf i).toNat)
  case atStart => exact ⟨0, Nat.zero_le _, rfl, rfl, Below.refl _ _⟩
  case round =>
    obtain ⟨k, hk, rfl, hall, hb⟩ := hrel
    by_cases hlt : k < xs.length
    · obtain ⟨b, off, rfl⟩ := h.some_ (by omega)
      obtain ⟨x, hx⟩ : ∃ x, xs[k]? = some x := ⟨_, List.getElem?_eq_getElem hlt⟩
      have h2 := (rg_node HV.out hx).2.1
      have HN := Lib.hid (sfe_no hx)
      have HY := Lib.hid (show (xs.take (k + 1)).all (fun n => n.2.2.any (hasId xs)) = (true && x.2.2.any (hasId xs)) from by rw [all_take_nod hx, hall])
      have HX := Lib.hid hx
      obtain ⟨x1, x2, x3⟩ := x
      simp only at h2 HN HY
      have H2 := Lib.hid h2
      clear hx hall h2
      go_wp2_with fail
      go_loopw [4, 5] (fun f i w5 => ∃ m : Nat, m ≤ 2 ∧ i = .int .i64 m ∧ f = .bool ((x3.take m).any (hasId xs)) ∧ Below wr.heap.size wr w5) (fun _ i _ => 2 - (intOf i).toNat)
      case atStart => exact ⟨0, Nat.zero_le _, rfl, rfl, Below.refl _ _⟩
      case round =>
        rename World => w5
        obtain ⟨m, hm, rfl, rfl, hb5⟩ := hrel
        have hb6 := below_next hb hb5
        have hw5 := h.below (hb6.mono hB)
        obtain ⟨A1, c1', c1, c2, c3, -, -, h3⟩ := hw5.at_ HX.out
        simp only at c1 c2 c3 h3
        clear c1 c2
        by_cases hlt5 : m < 2
        · have hltx : m < x3.length := by have := H2.out; omega
          obtain ⟨ad, z, rfl, -, hz, hcz⟩ := h3 m hltx
          have HS := Lib.hid (show (x3.take (m + 1)).any (hasId xs) = ((x3.take m).any (hasId xs) || hasId xs z) from any_take_int hz _)
          have HF := Lib.hid (find_any B (some ⟨b, off, none⟩) c xs hl10 z w5 hw5)
          have HB5 := Lib.hid hb5
          have hmz : (m : Int) < 2 := by omega
          have hmx : (m : Int) < (x3.length : Int) := by omega
          have HD : ∀ b, hasId xs z = b → Hid (decide (0 ≤ fnd z 0 xs) = b) := fun b hb => Lib.hid (find_dec hb)
          clear h hw5 h3 hz hb5 hb6 hb
          cases hs : (x3.take m).any (hasId xs)
          · rw [hs] at HS
            cases hp : hasId xs z
            all_goals
              rw [hp] at HS
              replace HD := HD _ hp
              have hdec := HD.out
              clear hs hp HD
              go_wp2_with fail
              refine HF.out.mono ?_; rintro e w9 ⟨rfl, hw9⟩; obtain rfl := hw9.symm
              go_wp2
              go_roundw
              case rel => exact ⟨m + 1, by omega, by go_num, by rw [HS.out]; rfl, HB5.out⟩
              case measure => simp [intOf]; omega
          · rw [hs] at HS
            clear HF hs
            go_wp2
            go_roundw
            case rel => exact ⟨m + 1, by omega, by go_num, by rw [HS.out]; rfl, HB5.out⟩
            case measure => simp [intOf]; omega
        · have hme : m = 2 := by omega
          subst hme
          rw [List.take_of_length_le (by have := H2.out; omega)]
          clear h hw5 h3 c3 hb hb5
          cases hs : x3.any (hasId xs)
          · replace HN := Lib.hid (HN.out hs)
            clear HY
            go_wp2_with fail
            go_ret
            exact ⟨ret_bool HN.out.symm, hb6⟩
          · rw [hs] at HY
            clear HN hs
            go_wp2_with fail
            refine ⟨⟨k + 1, by omega, by go_num, by rw [HY.out]; rfl, hb6⟩, ?_⟩
            simp only [intOf]; omega
    · clear h
      have : k = xs.length := by omega
      subst this
      have HE := Lib.hid (sfe_yes hall)
      have HR1 := HR wr hb
      clear hall HR
      go_wp2_with fail
      refine (HR1.out).mono ?_; rintro e w2 ⟨A2, c2, rfl, -, hb2⟩
      go_wp2
      go_ret
      exact ⟨ret_bool (by rw [HE.out]), below_next hb hb2⟩
theorem rsf_spec (B : Nat) (A : Option Addr) (c : Nat) (xs : List Nod) (hl : xs.length ≤ c) (hc : c ≤ maxLen) (w : World) (hB : B ≤ w.heap.size) (h : NodAt w B A xs) :
    Calls Try.prog 28 #[.slice A xs.length c] w fun e w' => e = .returned (.bool (rsf xs)) ∧ Below w.heap.size w w' := by
  have HV := Lib.hid (rv_spec B A c xs hl hc w hB h)
  have H := Lib.hid (show rsf xs = (rgVal xs && sfe xs) from rfl)
  cases hv : rgVal xs
  · clear h
    go_enter Try.func28, Try.ntmps28
    go_wp2_with (go_at_call 10; refine (HV.out).mono ?_; rw [hv]; rintro e w1 ⟨rfl, hb⟩)
    go_ret
    exact ⟨ret_bool (by rw [H.out, hv]; rfl), hb⟩
  · have HN := fun (W : World) (hW : Below w.heap.size w W) => Lib.hid (sfe_spec B A c xs hv W (Nat.le_trans hB hW.size) (h.below (hW.mono hB)))
    clear h
    go_enter Try.func28, Try.ntmps28
    go_wp2_with (first
      | (go_at_call 10; refine (HV.out).mono ?_; rw [hv]; rintro e w1 ⟨rfl, hb⟩)
      | (go_at_call 47; refine ((HN _ hb).out).mono ?_; rintro e w2 ⟨rfl, hb2⟩))
    go_ret
    exact ⟨ret_bool (by rw [H.out, hv]; rfl), below_next hb hb2⟩
end Go.Proofs.Ytmhneigglmingaa
