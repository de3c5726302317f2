/- Walks: the ideal ring: l3Ideal, RingNew of the reference. -/
import Derived.Test.YtmhneigglmingaaNodeA
import Derived.Test.YtmhneigglmingaaNodB
import Derived.Test.YtmhneigglmingaaIds
import Derived.Deep.RegionHeld3
namespace Go.Proofs.Ytmhneigglmingaa
open Go.RowKit
set_option maxHeartbeats 4000000
set_option linter.unusedVariables false
theorem keepA {W W' : World} {ad : Addr} {i j k l B : Nat} {a b c d : Value} (had : ad.block < B) (h : W.cell? (ad.add i) = some a ∧ W.cell? (ad.add j) = some b ∧ W.cell? (ad.add k) = some c ∧ W.cell? (ad.add l) = some d) (hb : Below B W W') : W'.cell? (ad.add i) = some a ∧ W'.cell? (ad.add j) = some b ∧ W'.cell? (ad.add k) = some c ∧ W'.cell? (ad.add l) = some d :=
  ⟨(hb.cell (by rw [block_add]; exact had)).trans h.1, (hb.cell (by rw [block_add]; exact had)).trans h.2.1, (hb.cell (by rw [block_add]; exact had)).trans h.2.2.1, (hb.cell (by rw [block_add]; exact had)).trans h.2.2.2⟩
theorem OwnI.lit {w : World} {base : Nat} (xs : List Int) (hb : base ≤ w.heap.size) (hl : xs.length ≤ 1048576) : OwnI (w.alloc (.cells (xs.map (Value.int .i64)).toArray 3)) base (some ⟨w.heap.size, 0, none⟩) xs.length xs := by
  have := World.ownsRow_lit w (xs.map (Value.int .i64)).toArray xs.length (e := 3) (size := 1) hb (by unfold maxLen; omega) (by simp)
  simpa [OwnI] using this
/-- The element at a place. -/
def el (xs : List Int) (i : Nat) : Int := (xs[i]?).getD 0
/-- Node i of the ideal ring. -/
def idn (xs : List Int) (i : Nat) : Nod := (el xs i, el xs ((i + xs.length - 1) % xs.length), [el xs ((i + 1) % xs.length), el xs ((i + 2) % xs.length)])
def idTo (xs : List Int) (k : Nat) : List Nod := (List.range k).map (idn xs)
def ideal (xs : List Int) : List Nod := idTo xs xs.length
theorem idTo_len (xs : List Int) (k : Nat) : (idTo xs k).length = k := by simp [idTo]
theorem idTo_succ (xs : List Int) (k : Nat) : idTo xs (k + 1) = idTo xs k ++ [idn xs k] := by simp [idTo, List.range_succ]
theorem el_at {w : World} {B : Nat} {ad : Addr} {xs : List Int} (h : NumsAt .i64 w B (some ad) xs) {p : Nat} (hp : p < xs.length) : w.cell? (ad.add p) = some (.int .i64 (el xs p)) := by
  obtain ⟨ad', x, e, -, hx, hc⟩ := h p hp
  injection e with e
  subst e
  unfold el; rw [hx]; exact hc
theorem tmod_nat {a : Int} {m n : Nat} (h : a = (m : Int)) : a.tmod (n : Int) = ((m % n : Nat) : Int) := by subst h; rw [Int.ofNat_tmod]
theorem wrap_small {n : Int} (h0 : 0 ≤ n) (h1 : n ≤ 1000) : IntKind.i64.wrap n = n := by rw [IntKind.wrap_i64]; omega
theorem ideal_spec (B : Nat) (A : Option Addr) (c : Nat) (xs : List Int) (h3 : 3 ≤ xs.length) (h10 : xs.length ≤ 10) (w : World) (hB : B ≤ w.heap.size) (h : NumsAt .i64 w B A xs) :
    Calls Try.prog 37 #[.slice A xs.length c] w fun e w' => (∃ A' c', e = .returned (.slice A' xs.length c') ∧ RowN w' w.heap.size A' c' (ideal xs).length (ideal xs)) ∧ Below w.heap.size w w' := by
  obtain ⟨i0, hi, hz0, hz1, hz2⟩ := info_parts nod_info
  have HI := Lib.hid hi
  have HZ0 := Lib.hid hz0
  have HZ1 := Lib.hid hz1
  have HZ2 := Lib.hid hz2
  clear hi hz0 hz1 hz2
  obtain ⟨ad, rfl⟩ : ∃ ad, A = some ad := by obtain ⟨ad, _, e, _⟩ := h 0 (by omega); exact ⟨ad, e⟩
  go_enter Try.func37, Try.ntmps37
  go_wp2_with fail
  go_loopw [3, 5] (fun s i wr => ∃ (k : Nat) (A' : Option Addr) (c' : Nat), k ≤ xs.length ∧ i = .int .i64 k ∧ s = .slice A' k c' ∧ RowN wr w.heap.size A' c' (idTo xs k).length (idTo xs k) ∧ Below w.heap.size w wr) (fun _ i _ => xs.length - (intOf i).toNat)
  case atStart => exact ⟨0, _, 0, Nat.zero_le _, rfl, rfl, RowN.empty w (Nat.le_refl _), (Below.refl _ _).alloc (Nat.le_refl _) _⟩
  case round =>
    obtain ⟨k, A', c', hk, rfl, rfl, ho, hb⟩ := hrel
    by_cases hlt : k < xs.length
    · have hn := h.below (hb.mono hB)
      obtain ⟨p1, hp1⟩ : ∃ p, p = (k + xs.length - 1) % xs.length := ⟨_, rfl⟩
      obtain ⟨p2, hp2⟩ : ∃ p, p = (k + 1) % xs.length := ⟨_, rfl⟩
      obtain ⟨p3, hp3⟩ : ∃ p, p = (k + 2) % xs.length := ⟨_, rfl⟩
      have l1 : p1 < xs.length := by rw [hp1]; exact Nat.mod_lt _ (by omega)
      have l2 : p2 < xs.length := by rw [hp2]; exact Nat.mod_lt _ (by omega)
      have l3 : p3 < xs.length := by rw [hp3]; exact Nat.mod_lt _ (by omega)
      have c0 := el_at hn hlt
      have c1 := el_at hn l1
      have c2 := el_at hn l2
      have c3 := el_at hn l3
      have m1 : ((k : Int) + (xs.length : Int) - 1).tmod (xs.length : Int) = (p1 : Int) := by rw [hp1]; exact tmod_nat (by omega)
      have m2 : ((k : Int) + 1).tmod (xs.length : Int) = (p2 : Int) := by rw [hp2]; exact tmod_nat (by omega)
      have m3 : ((k : Int) + 2).tmod (xs.length : Int) = (p3 : Int) := by rw [hp3]; exact tmod_nat (by omega)
      have v1 : IntKind.i64.wrap ((k : Int) + (xs.length : Int)) = (k : Int) + (xs.length : Int) := wrap_small (by omega) (by omega)
      have v2 : IntKind.i64.wrap ((k : Int) + (xs.length : Int) - 1) = (k : Int) + (xs.length : Int) - 1 := wrap_small (by omega) (by omega)
      have v3 : IntKind.i64.wrap ((k : Int) + 1) = (k : Int) + 1 := wrap_small (by omega) (by omega)
      have v4 : IntKind.i64.wrap ((k : Int) + 2) = (k : Int) + 2 := wrap_small (by omega) (by omega)
      have HD := Lib.hid (show idn xs k = (el xs k, el xs p1, [el xs p2, el xs p3]) from by rw [hp1, hp2, hp3]; rfl)
      have HS := Lib.hid (idTo_succ xs k)
      have HL := Lib.hid (idTo_len xs k)
      have hlz : (k : Int) < (xs.length : Int) := by omega
      have z1 : (p1 : Int) < (xs.length : Int) := by omega
      have z2 : (p2 : Int) < (xs.length : Int) := by omega
      have z3 : (p3 : Int) < (xs.length : Int) := by omega
      have hne : ¬ xs = [] := by intro e; subst e; simp at h3
      have hsz := hb.size
      have h0 := h
      clear h hn hp1 hp2 hp3
      generalize el xs k = a0 at c0 HD
      generalize el xs p1 = a1 at c1 HD
      generalize el xs p2 = a2 at c2 HD
      generalize el xs p3 = a3 at c3 HD
      have had : ad.block < w.heap.size := by obtain ⟨_, _, e, hbb, _⟩ := h0 0 (by omega); injection e with e; subst e; omega
      have hE1 : ((wr.alloc (.cells #[.int .i64 a2, .int .i64 a3] 3 (0, 0))).drew).heap[wr.heap.size]? = some (.cells #[.int .i64 a2, .int .i64 a3] 3 (0, 0)) := alloc_top wr _
      have hB1 : Below wr.heap.size wr (wr.alloc (.cells #[.int .i64 a2, .int .i64 a3] 3 (0, 0))).drew := ((Below.refl _ _).alloc (Nat.le_refl _) _).drew
      have hoi : OwnI (wr.alloc (.cells #[.int .i64 a2, .int .i64 a3] 3 (0, 0))).drew wr.heap.size (some ⟨wr.heap.size, 0, none⟩) 2 [a2, a3] := (OwnI.lit [a2, a3] (Nat.le_refl _) (by simp)).drewN 1
      go_wp2_with fail
      refine wp_region_held_drew (S := fun W => W.cell? (ad.add k) = some (.int .i64 a0) ∧ W.cell? (ad.add p1) = some (.int .i64 a1) ∧ W.cell? (ad.add p2) = some (.int .i64 a2) ∧ W.cell? (ad.add p3) = some (.int .i64 a3)) (by kernel_rfl) (keepA had ⟨c0, c1, c2, c3⟩ ((Below.refl _ _).drew)) (fun hHeld => ?_)
      refine wpAnyH_take (i := 0) (v := ?_) rfl (by kernel_rfl) (by kernel_rfl) (by kernel_rfl) (fun _ _ _ h => h) (Or.inl ⟨by rfl, ?_⟩) hHeld ?_
      rotate_left
      · intro w hSw; (try dsimp only at hSw); go_simp <;> with_reducible rfl
      try simp only [Act.put, List.getElem_toArray, List.getElem_cons_zero, List.setIfInBounds_toArray, List.set_cons_zero, List.set_cons_succ]
      refine wpAnyH_take (i := 1) (v := ?_) rfl (by kernel_rfl) (by kernel_rfl) (by kernel_rfl) (fun _ _ _ h => h) (Or.inl ⟨by rfl, ?_⟩) hHeld ?_
      rotate_left
      · intro w hSw; (try dsimp only at hSw); go_simp <;> with_reducible rfl
      try simp only [Act.put, List.getElem_toArray, List.getElem_cons_zero, List.getElem_cons_succ, List.setIfInBounds_toArray, List.set_cons_zero, List.set_cons_succ]
      refine wpAnyH_take (i := 2) (v := ?_) rfl (by kernel_rfl) (by kernel_rfl) (by kernel_rfl) (fun _ _ _ h => h) (Or.inl ⟨by rfl, ?_⟩) hHeld ?_
      rotate_left
      · intro w hSw; (try dsimp only at hSw); go_simp <;> with_reducible rfl
      try simp only [Act.put, List.getElem_toArray, List.getElem_cons_zero, List.getElem_cons_succ, List.setIfInBounds_toArray, List.set_cons_zero, List.set_cons_succ]
      refine wpAnyH_take (i := 3) (v := ?_) rfl (by kernel_rfl) (by kernel_rfl) (by kernel_rfl) (fun _ _ _ h => h) (Or.inl ⟨by rfl, ?_⟩) hHeld ?_
      rotate_left
      · intro w hSw; (try dsimp only at hSw); go_simp <;> with_reducible rfl
      try simp only [Act.put, List.getElem_toArray, List.getElem_cons_zero, List.getElem_cons_succ, List.setIfInBounds_toArray, List.set_cons_zero, List.set_cons_succ]
      refine wpAnyH_take (i := 4) (v := ?_) rfl (by kernel_rfl) (by kernel_rfl) (by kernel_rfl) (fun _ _ _ h => h) (Or.inl ⟨by rfl, ?_⟩) hHeld ?_
      rotate_left
      · intro w hSw; (try dsimp only at hSw); go_simp <;> with_reducible rfl
      try simp only [Act.put, List.getElem_toArray, List.getElem_cons_zero, List.getElem_cons_succ, List.setIfInBounds_toArray, List.set_cons_zero, List.set_cons_succ]
      refine wpAnyH_take (i := 5) (v := ?_) rfl (by kernel_rfl) (by kernel_rfl) (by kernel_rfl) (fun _ _ _ h => h) (Or.inl ⟨by rfl, ?_⟩) hHeld ?_
      rotate_left
      · intro w hSw; (try dsimp only at hSw); go_simp <;> with_reducible rfl
      try simp only [Act.put, List.getElem_toArray, List.getElem_cons_zero, List.getElem_cons_succ, List.setIfInBounds_toArray, List.set_cons_zero, List.set_cons_succ]
      refine wpAnyH_take (i := 6) (v := ?_) rfl (by kernel_rfl) (by kernel_rfl) (by kernel_rfl) (fun _ _ _ h => h) (Or.inl ⟨by rfl, ?_⟩) hHeld ?_
      rotate_left
      · intro w hSw; (try dsimp only at hSw); go_simp <;> with_reducible rfl
      try simp only [Act.put, List.getElem_toArray, List.getElem_cons_zero, List.getElem_cons_succ, List.setIfInBounds_toArray, List.set_cons_zero, List.set_cons_succ]
      refine wpAnyH_take (i := 7) (v := ?_) rfl (by kernel_rfl) (by kernel_rfl) (by kernel_rfl) (fun _ _ _ h => h) (Or.inl ⟨by rfl, ?_⟩) hHeld ?_
      rotate_left
      · intro w hSw; (try dsimp only at hSw); go_simp <;> with_reducible rfl
      try simp only [Act.put, List.getElem_toArray, List.getElem_cons_zero, List.getElem_cons_succ, List.setIfInBounds_toArray, List.set_cons_zero, List.set_cons_succ]
      refine wpAnyH_take (i := 8) (v := ?_) rfl (by kernel_rfl) (by kernel_rfl) (by kernel_rfl) (fun _ _ _ h => h) (Or.inl ⟨by rfl, ?_⟩) hHeld ?_
      rotate_left
      · intro w hSw; (try dsimp only at hSw); go_simp <;> with_reducible rfl
      try simp only [Act.put, List.getElem_toArray, List.getElem_cons_zero, List.getElem_cons_succ, List.setIfInBounds_toArray, List.set_cons_zero, List.set_cons_succ]
      refine wpAnyH_take (i := 9) (v := ?_) rfl (by kernel_rfl) (by kernel_rfl) (by kernel_rfl) (fun _ _ _ h => h) (Or.inl ⟨by rfl, ?_⟩) hHeld ?_
      rotate_left
      · intro w hSw; (try dsimp only at hSw); go_simp <;> with_reducible rfl
      try simp only [Act.put, List.getElem_toArray, List.getElem_cons_zero, List.getElem_cons_succ, List.setIfInBounds_toArray, List.set_cons_zero, List.set_cons_succ]
      refine wpAnyH_take (i := 10) (v := ?_) rfl (by kernel_rfl) (by kernel_rfl) (by kernel_rfl) (fun _ _ _ h => h) (Or.inl ⟨by rfl, ?_⟩) hHeld ?_
      rotate_left
      · intro w hSw; (try dsimp only at hSw); go_simp <;> with_reducible rfl
      try simp only [Act.put, List.getElem_toArray, List.getElem_cons_zero, List.getElem_cons_succ, List.setIfInBounds_toArray, List.set_cons_zero, List.set_cons_succ]
      refine wpAnyH_take (i := 11) (v := ?_) rfl (by kernel_rfl) (by kernel_rfl) (by kernel_rfl) (fun _ _ _ h => h) (Or.inl ⟨by rfl, ?_⟩) hHeld ?_
      rotate_left
      · intro w hSw; (try dsimp only at hSw); go_simp <;> with_reducible rfl
      try simp only [Act.put, List.getElem_toArray, List.getElem_cons_zero, List.getElem_cons_succ, List.setIfInBounds_toArray, List.set_cons_zero, List.set_cons_succ]
      refine wpAnyH_take (i := 12) (v := ?_) rfl (by kernel_rfl) (by kernel_rfl) (by kernel_rfl) (fun _ _ _ h => h) (Or.inl ⟨by rfl, ?_⟩) hHeld ?_
      rotate_left
      · intro w hSw; (try dsimp only at hSw); go_simp <;> with_reducible rfl
      try simp only [Act.put, List.getElem_toArray, List.getElem_cons_zero, List.getElem_cons_succ, List.setIfInBounds_toArray, List.set_cons_zero, List.set_cons_succ]
      refine wpAnyH_take (i := 13) (v := ?_) rfl (by kernel_rfl) (by kernel_rfl) (by kernel_rfl) (fun _ _ _ h => h) (Or.inl ⟨by rfl, ?_⟩) hHeld ?_
      rotate_left
      · intro w hSw; (try dsimp only at hSw); go_simp <;> with_reducible rfl
      try simp only [Act.put, List.getElem_toArray, List.getElem_cons_zero, List.getElem_cons_succ, List.setIfInBounds_toArray, List.set_cons_zero, List.set_cons_succ]
      refine wpAnyH_take (i := 14) (v := ?_) rfl (by kernel_rfl) (by kernel_rfl) (by kernel_rfl) (fun _ _ _ h => h) (Or.inl ⟨by rfl, ?_⟩) hHeld ?_
      rotate_left
      · intro w hSw; (try dsimp only at hSw); go_simp <;> with_reducible rfl
      try simp only [Act.put, List.getElem_toArray, List.getElem_cons_zero, List.getElem_cons_succ, List.setIfInBounds_toArray, List.set_cons_zero, List.set_cons_succ]
      refine wpAnyH_take (i := 15) (v := ?_) rfl (by kernel_rfl) (by kernel_rfl) (by kernel_rfl) (fun _ _ _ h => h) (Or.inl ⟨by rfl, ?_⟩) hHeld ?_
      rotate_left
      · intro w hSw; (try dsimp only at hSw); go_simp <;> with_reducible rfl
      try simp only [Act.put, List.getElem_toArray, List.getElem_cons_zero, List.getElem_cons_succ, List.setIfInBounds_toArray, List.set_cons_zero, List.set_cons_succ]
      refine wpAnyH_take (i := 16) (v := ?_) rfl (by kernel_rfl) (by kernel_rfl) (by kernel_rfl) (fun _ _ _ h => h) (Or.inl ⟨by rfl, ?_⟩) hHeld ?_
      rotate_left
      · intro w hSw; (try dsimp only at hSw); go_simp <;> with_reducible rfl
      try simp only [Act.put, List.getElem_toArray, List.getElem_cons_zero, List.getElem_cons_succ, List.setIfInBounds_toArray, List.set_cons_zero, List.set_cons_succ]
      refine wpAnyH_take (i := 17) (v := ?_) rfl (by kernel_rfl) (by kernel_rfl) (by kernel_rfl) (fun _ _ _ h => h) (Or.inl ⟨by rfl, ?_⟩) hHeld ?_
      rotate_left
      · intro w hSw; (try dsimp only at hSw); go_simp <;> with_reducible rfl
      try simp only [Act.put, List.getElem_toArray, List.getElem_cons_zero, List.getElem_cons_succ, List.setIfInBounds_toArray, List.set_cons_zero, List.set_cons_succ]
      refine wpAnyH_take (i := 18) (v := ?_) rfl (by kernel_rfl) (by kernel_rfl) (by kernel_rfl) (fun _ _ _ h => h) (Or.inl ⟨by rfl, ?_⟩) hHeld ?_
      rotate_left
      · intro w hSw; (try dsimp only at hSw); go_simp <;> with_reducible rfl
      try simp only [Act.put, List.getElem_toArray, List.getElem_cons_zero, List.getElem_cons_succ, List.setIfInBounds_toArray, List.set_cons_zero, List.set_cons_succ]
      refine wpAnyH_take (i := 19) (v := ?_) rfl (by kernel_rfl) (by kernel_rfl) (by kernel_rfl) (fun _ _ _ h => h) (Or.inl ⟨by rfl, ?_⟩) hHeld ?_
      rotate_left
      · intro w hSw; (try dsimp only at hSw); go_simp <;> with_reducible rfl
      try simp only [Act.put, List.getElem_toArray, List.getElem_cons_zero, List.getElem_cons_succ, List.setIfInBounds_toArray, List.set_cons_zero, List.set_cons_succ]
      refine wpAnyH_take (i := 20) (v := ?_) rfl (by kernel_rfl) (by kernel_rfl) (by kernel_rfl) (fun _ _ _ h => h) (Or.inl ⟨by rfl, ?_⟩) hHeld ?_
      rotate_left
      · intro w hSw; (try dsimp only at hSw); go_simp <;> with_reducible rfl
      try simp only [Act.put, List.getElem_toArray, List.getElem_cons_zero, List.getElem_cons_succ, List.setIfInBounds_toArray, List.set_cons_zero, List.set_cons_succ]
      refine wpAnyH_take (i := 21) (v := ?_) rfl (by kernel_rfl) (by kernel_rfl) (by kernel_rfl) (fun _ _ _ h => h) (Or.inl ⟨by rfl, ?_⟩) hHeld ?_
      rotate_left
      · intro w hSw; (try dsimp only at hSw); go_simp <;> with_reducible rfl
      try simp only [Act.put, List.getElem_toArray, List.getElem_cons_zero, List.getElem_cons_succ, List.setIfInBounds_toArray, List.set_cons_zero, List.set_cons_succ]
      refine wpAnyH_take (i := 22) (v := ?_) rfl (by kernel_rfl) (by kernel_rfl) (by kernel_rfl) (fun _ _ _ h => h) (Or.inl ⟨by rfl, ?_⟩) hHeld ?_
      rotate_left
      · intro w hSw; (try dsimp only at hSw); go_simp <;> with_reducible rfl
      try simp only [Act.put, List.getElem_toArray, List.getElem_cons_zero, List.getElem_cons_succ, List.setIfInBounds_toArray, List.set_cons_zero, List.set_cons_succ]
      refine wpAnyH_take (i := 23) (v := ?_) rfl (by kernel_rfl) (by kernel_rfl) (by kernel_rfl) (fun _ _ _ h => h) (Or.inl ⟨by rfl, ?_⟩) hHeld ?_
      rotate_left
      · intro w hSw; (try dsimp only at hSw); go_simp <;> with_reducible rfl
      try simp only [Act.put, List.getElem_toArray, List.getElem_cons_zero, List.getElem_cons_succ, List.setIfInBounds_toArray, List.set_cons_zero, List.set_cons_succ]
      refine wpAnyH_take (i := 24) (v := ?_) rfl (by kernel_rfl) (by kernel_rfl) (by kernel_rfl) (fun _ _ _ h => h) (Or.inl ⟨by rfl, ?_⟩) hHeld ?_
      rotate_left
      · intro w hSw; (try dsimp only at hSw); go_simp <;> with_reducible rfl
      try simp only [Act.put, List.getElem_toArray, List.getElem_cons_zero, List.getElem_cons_succ, List.setIfInBounds_toArray, List.set_cons_zero, List.set_cons_succ]
      refine wpAnyH_take (i := 25) (v := ?_) rfl (by kernel_rfl) (by kernel_rfl) (by kernel_rfl) (fun _ _ _ h => h) (Or.inl ⟨by rfl, ?_⟩) hHeld ?_
      rotate_left
      · intro w hSw; (try dsimp only at hSw); go_simp <;> with_reducible rfl
      try simp only [Act.put, List.getElem_toArray, List.getElem_cons_zero, List.getElem_cons_succ, List.setIfInBounds_toArray, List.set_cons_zero, List.set_cons_succ]
      refine wpAnyH_take (i := 26) (v := ?_) rfl (by kernel_rfl) (by kernel_rfl) (by kernel_rfl) (fun _ _ _ h => h) (Or.inl ⟨by rfl, ?_⟩) hHeld ?_
      rotate_left
      · intro w hSw; (try dsimp only at hSw); go_simp <;> with_reducible rfl
      try simp only [Act.put, List.getElem_toArray, List.getElem_cons_zero, List.getElem_cons_succ, List.setIfInBounds_toArray, List.set_cons_zero, List.set_cons_succ]
      refine wpAnyH_take (i := 27) (v := ?_) rfl (by kernel_rfl) (by kernel_rfl) (by kernel_rfl) (fun _ _ _ h => h) (Or.inl ⟨by rfl, ?_⟩) hHeld ?_
      rotate_left
      · intro w hSw; (try dsimp only at hSw); go_simp <;> with_reducible rfl
      try simp only [Act.put, List.getElem_toArray, List.getElem_cons_zero, List.getElem_cons_succ, List.setIfInBounds_toArray, List.set_cons_zero, List.set_cons_succ]
      refine wpAnyH_ready (rs := [28]) (by kernel_rfl) (by simp) ?_
      refine AllReadyH.cons rfl (fun K hK => ?_) AllReadyH.nil
      go_simp
      refine hK.out _ _ (keepA had ⟨c0, c1, c2, c3⟩ (hB1.mono hsz)) (fun hHeld => ?_)
      clear hK K
      try simp only [Act.put, List.getElem_toArray, List.getElem_cons_zero, List.getElem_cons_succ, List.setIfInBounds_toArray, List.set_cons_zero, List.set_cons_succ]
      generalize (wr.alloc (.cells #[.int .i64 a2, .int .i64 a3] 3 (0, 0))).drew = W1 at hE1 hB1 hoi hHeld ⊢
      have hsz1 := hB1.size
      have hB2 : Below wr.heap.size wr (W1.alloc (.cells #[.int .i64 a0, .int .i64 a1, .slice (some ⟨wr.heap.size, 0, none⟩) 2 2] 41 (0, 0))) := hB1.alloc hsz1 _
      refine wpAnyH_take (i := 29) (v := ?_) rfl (by kernel_rfl) (by kernel_rfl) (by kernel_rfl) (fun _ _ _ h => h) (Or.inl ⟨by rfl, ?_⟩) hHeld ?_
      rotate_left
      · intro w hSw; (try dsimp only at hSw); go_simp <;> with_reducible rfl
      try simp only [Act.put, List.getElem_toArray, List.getElem_cons_zero, List.getElem_cons_succ, List.setIfInBounds_toArray, List.set_cons_zero, List.set_cons_succ]
      refine wpAnyH_ready (rs := [30]) (by kernel_rfl) (by simp) ?_
      refine AllReadyH.cons rfl (fun K hK => ?_) AllReadyH.nil
      go_simp
      refine hK.out _ _ (keepA had ⟨c0, c1, c2, c3⟩ (hB2.mono hsz)) (fun hHeld => ?_)
      clear hK K
      try simp only [Act.put, List.getElem_toArray, List.getElem_cons_zero, List.getElem_cons_succ, List.setIfInBounds_toArray, List.set_cons_zero, List.set_cons_succ]
      refine wpAnyH_ready (rs := [31]) (by kernel_rfl) (by simp) ?_
      refine AllReadyH.cons rfl (fun K hK => ?_) AllReadyH.nil
      refine step_appN rfl Try.underlying25 HI.out HZ0.out HZ1.out HZ2.out (.tmp 14) (.tmp 44) rfl (w0 := wr) (base := w.heap.size) (xs := idTo xs k) (y := (a0, a1, [a2, a3])) rfl HL.out.symm ho hsz hB2 rfl (Nat.le_refl _) (hoi.alloc _) (alloc_top W1 _) (by rw [HL.out]; omega) ?_
      intro A2 c2' w4 ho4 hg4 hat4
      have hB4 : Below w.heap.size wr w4 := (hB2.mono hsz).grown hg4 (by simp; omega) (fun q hq => (ho.rowBase q hq).1)
      refine hK.out _ _ (keepA had ⟨c0, c1, c2, c3⟩ hB4) (fun hHeld => ?_)
      clear hK K
      try simp only [Act.put, List.getElem_toArray, List.getElem_cons_zero, List.getElem_cons_succ, List.setIfInBounds_toArray, List.set_cons_zero, List.set_cons_succ]
      refine wpAnyH_take (i := 32) (v := ?_) rfl (by kernel_rfl) (by kernel_rfl) (by kernel_rfl) (fun _ _ _ h => h) (Or.inl ⟨by rfl, ?_⟩) hHeld ?_
      rotate_left
      · intro w hSw; (try dsimp only at hSw); go_simp <;> with_reducible rfl
      try simp only [Act.put, List.getElem_toArray, List.getElem_cons_zero, List.getElem_cons_succ, List.setIfInBounds_toArray, List.set_cons_zero, List.set_cons_succ]
      refine wpAnyH_done (by kernel_rfl) ?_ _
      go_wp2
      go_roundw
      case rel => exact ⟨k + 1, A2, c2', by omega, by go_num, by rw [HL.out], by rw [HS.out, HD.out]; exact ho4, hb.trans hB4⟩
      case measure => simp [intOf]; omega
    · have : k = xs.length := by omega
      subst this
      have HL := Lib.hid (idTo_len xs xs.length)
      clear h
      go_wp2
      go_ret
      exact ⟨⟨A', c', rfl, ho⟩, hb⟩
end Go.Proofs.Ytmhneigglmingaa
