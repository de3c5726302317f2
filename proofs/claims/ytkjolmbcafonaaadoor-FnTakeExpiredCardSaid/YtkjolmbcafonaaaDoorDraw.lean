/- Walks: the reader of codes (l6Open, pick): from a drawn code come numbers in their ranges, and nothing that was there before turns. -/
import Derived.Test.YtkjolmbcafonaaaDoorInts
import Derived.IntWalk
import Derived.Laws.BitsAllLaws
import Derived.Laws.BitsLemmas
namespace Go.Proofs.YtkjolmbcafonaaaDoor
open Go.RowKit
set_option maxHeartbeats 400000
set_option linter.unusedVariables false
/-- The reader in block R: bytes that lie below it, and a place of at most M. -/
def Rd (w : World) (R : Nat) (M : Nat) : Prop := ∃ (A : Option Addr) (c : Nat) (bs : List Int) (p : Nat),
  w.heap[R]? = some (.cells #[.slice A bs.length c, .int .i64 p] 56 (0, 0)) ∧ bs.length ≤ 2000 ∧ p ≤ M ∧ NumsAt .u8 w R A bs ∧ ∀ x ∈ bs, 0 ≤ x ∧ x ≤ 255
/-- pick's result: a number from 0 to n-1; the reader alone has turned. -/
def Picked (w : World) (R M : Nat) (n : Int) (e : Ending) (w' : World) : Prop := ∃ x : Int, 0 ≤ x ∧ x < n ∧ e = .returned (.int .i64 x) ∧ Rd w' R (M + 1) ∧ w.grownBy w' (some R)

theorem Rd.step {w : World} {R M : Nat} {A : Option Addr} {c p : Nat} {bs : List Int} (hh : w.heap[R]? = some (.cells #[.slice A bs.length c, .int .i64 p] 56 (0, 0))) (hl : bs.length ≤ 2000) (hp : p ≤ M) (hn : NumsAt .u8 w R A bs) (hx : ∀ x ∈ bs, 0 ≤ x ∧ x ≤ 255) :
    Rd (w.setCell ⟨R, 1, none⟩ (.int .i64 ((p : Int) + 1))) R (M + 1) ∧ w.grownBy (w.setCell ⟨R, 1, none⟩ (.int .i64 ((p : Int) + 1))) (some R) ∧
    (w.setCell ⟨R, 1, none⟩ (.int .i64 ((p : Int) + 1))).cell? ⟨R, 0, none⟩ = some (.slice A bs.length c) ∧ (w.setCell ⟨R, 1, none⟩ (.int .i64 ((p : Int) + 1))).cell? ⟨R, 1, none⟩ = some (.int .i64 ((p : Int) + 1)) ∧
    NumsAt .u8 (w.setCell ⟨R, 1, none⟩ (.int .i64 ((p : Int) + 1))) R A bs := by
  have h2 := heap_setCell_same w R 1 _ _ (.int .i64 ((p : Int) + 1)) hh
  have hn' : NumsAt .u8 (w.setCell ⟨R, 1, none⟩ (.int .i64 ((p : Int) + 1))) R A bs := hn.keep fun q hq => World.cell?_of_block (heap_setCell_other w ⟨R, 1, none⟩ q.block _ (by simp; omega))
  refine ⟨⟨A, c, bs, p + 1, by rw [h2]; rfl, hl, by omega, hn', hx⟩, ⟨rfl, rfl, rfl, by simp [World.setCell], fun k hk hne => heap_setCell_other w ⟨R, 1, none⟩ k _ (fun e => hne (by simp [e]))⟩, ?_, ?_, hn'⟩
  · rw [cell_of_row _ _ _ _ _ _ h2]; rfl
  · rw [cell_of_row _ _ _ _ _ _ h2]; rfl

theorem grown_drewN {a w : World} {row : Option Nat} (h : a.grownBy w row) (n : Nat) : a.grownBy (w.drewN n) row := ⟨h.os, h.tape, h.output, h.size, h.block⟩
theorem ofInt_i64 (a : Nat) (ha : a < 9223372036854775808) : (BitVec.ofInt 64 (a : Int)).toNat = a := by
  rw [BitVec.ofInt_natCast, BitVec.toNat_ofNat]; exact Nat.mod_eq_of_lt (by omega)
theorem i64_xor_nat (a b : Nat) (ha : a < 9223372036854775808) (hb : b < 9223372036854775808) : bits .xor .i64 (a : Int) (b : Int) = ((a ^^^ b : Nat) : Int) := by
  have hx : a ^^^ b < 2 ^ 63 := Nat.xor_lt_two_pow (by omega) (by omega)
  show IntKind.i64.wrap ((BitVec.ofInt 64 (a : Int) ^^^ BitVec.ofInt 64 (b : Int)).toNat : Int) = _
  rw [BitVec.toNat_xor, ofInt_i64 a ha, ofInt_i64 b hb, IntKind.wrap_i64]
  omega
theorem xor_pos (T : Int) (h0 : 0 ≤ T) (h1 : T ≤ 1000000000) : ∃ X, bits .xor .i64 T (T / 64) = X ∧ 0 ≤ X := by
  obtain ⟨t, rfl⟩ := Int.eq_ofNat_of_zero_le h0
  refine ⟨_, ?_, Int.natCast_nonneg (t ^^^ (t / 64))⟩
  rw [← i64_xor_nat t (t / 64) (by omega) (by omega)]
  rfl

theorem pick_any (R M : Nat) (n : Int) (hM : M ≤ 100000) (hn1 : 1 ≤ n) (hn2 : n ≤ 1000) (w : World) (h : Rd w R M) : Calls Tryd.prog 16 #[.pointer (some ⟨R, 0, none⟩), .int .i64 n] w (Picked w R M n) := by
  obtain ⟨A, c, bs, p, hh, hl, hp, hb, hx⟩ := h
  obtain ⟨s1, s2, s3, s4, s5⟩ := Rd.step hh hl hp hb hx
  have c0 : w.cell? ⟨R, 0, none⟩ = some (.slice A bs.length c) := by rw [cell_of_row _ _ _ _ _ _ hh]; rfl
  have c1 : w.cell? ⟨R, 1, none⟩ = some (.int .i64 p) := by rw [cell_of_row _ _ _ _ _ _ hh]; rfl
  have f1 : w.frozen? ⟨R, 1, none⟩ = false := frozen_of_row w R 1 _ _ hh
  obtain ⟨w1, hw1⟩ : ∃ w1, w.setCell ⟨R, 1, none⟩ (.int .i64 ((p : Int) + 1)) = w1 := ⟨_, rfl⟩
  rw [hw1] at s1 s2 s3 s4 s5
  have S1 := Lib.hid s1
  have S2 := Lib.hid s2
  clear hh s1 s2 hb
  rcases (by omega : bs.length = 0 ∨ (0 < bs.length ∧ p < bs.length) ∨ (0 < bs.length ∧ bs.length ≤ p)) with h0 | ⟨h0, h1⟩ | ⟨h0, h1⟩
  · have hx := List.eq_nil_of_length_eq_zero h0
    subst hx
    clear h0 s5
    go_enter Tryd.func16, Tryd.ntmps16
    go_wp2
    go_ret
    exact ⟨0, by omega, by omega, rfl, S1.out, S2.out⟩
  · obtain ⟨ad, x, rfl, -, hx1, hc⟩ := s5 p h1
    have hx2 := hx x (List.mem_of_getElem? hx1)
    obtain ⟨x0, x9⟩ := hx2
    have hm := Int.emod_lt_of_pos x (show 0 < n by omega)
    have hm0 := Int.emod_nonneg x (show n ≠ 0 by omega)
    clear s5 hx hx1
    have hz : ((bs.length : Int) == 0) = false := by rw [beq_eq_false_iff_ne]; omega
    go_enter Tryd.func16, Tryd.ntmps16
    go_wp2
    go_ret
    exact ⟨x % n, hm0, hm, rfl, S1.out, S2.out⟩
  · obtain ⟨L, hL⟩ : ∃ L, L = bs.length := ⟨_, rfl⟩
    have i1 : p % L < L := Nat.mod_lt _ (by omega)
    have i2 : (p * 7 + 3) % L < L := Nat.mod_lt _ (by omega)
    obtain ⟨ad, x, rfl, -, hx1, hc⟩ := s5 (p % L) (by omega)
    obtain ⟨ad', y, he, -, hy1, hc'⟩ := s5 ((p * 7 + 3) % L) (by omega)
    injection he with he
    subst he
    obtain ⟨x0, x9⟩ := hx x (List.mem_of_getElem? hx1)
    obtain ⟨y0, y9⟩ := hx y (List.mem_of_getElem? hy1)
    clear s5 hx hx1 hy1
    rw [← hL] at h0 h1 s3 hl c0
    have hz : ((L : Int) == 0) = false := by rw [beq_eq_false_iff_ne]; omega
    have hz' : ¬ L = 0 := by omega
    clear hL
    have q1 : (p : Int).tmod (L : Int) = ((p % L : Nat) : Int) := IntWalk.up_tmod rfl rfl
    have q2 : ((p : Int) * 7 + 3).tmod (L : Int) = (((p * 7 + 3) % L : Nat) : Int) := IntWalk.up_tmod (by omega) rfl
    generalize hi : p % L = i at *
    generalize hj : (p * 7 + 3) % L = j at *
    clear hi hj
    obtain ⟨d, hd, d1⟩ : ∃ d, p / L = d ∧ d ≤ p := ⟨_, rfl, Nat.div_le_self p L⟩
    have d2 : (p : Int) / (L : Int) = (d : Int) := by rw [← hd]; rfl
    have d0 : IntKind.i64.wrap ((p : Int).tdiv (L : Int)) = (d : Int) := by
      rw [IntWalk.up_tdiv (x := p) (y := L) rfl rfl, hd]; exact IntWalk.i64_in _ (by omega)
    clear hd
    have v1 : IntKind.i64.wrap x = x := IntWalk.i64_in _ (by omega)
    have v2 : IntKind.i64.wrap y = y := IntWalk.i64_in _ (by omega)
    have v3 : IntKind.i64.wrap (x * 131) = x * 131 := IntWalk.i64_in _ (by omega)
    have v4 : IntKind.i64.wrap (y * 1117) = y * 1117 := IntWalk.i64_in _ (by omega)
    have v5 : IntKind.i64.wrap (x * 131 + y * 1117) = x * 131 + y * 1117 := IntWalk.i64_in _ (by omega)
    have v6 : IntKind.i64.wrap ((p : Int) * 29) = (p : Int) * 29 := IntWalk.i64_in _ (by omega)
    have v7 : IntKind.i64.wrap (x * 131 + y * 1117 + (p : Int) * 29) = x * 131 + y * 1117 + (p : Int) * 29 := IntWalk.i64_in _ (by omega)
    have v8 : IntKind.i64.wrap ((d : Int) * 53) = (d : Int) * 53 := IntWalk.i64_in _ (by omega)
    have v9 : IntKind.i64.wrap ((p : Int) * 7) = (p : Int) * 7 := IntWalk.i64_in _ (by omega)
    have v10 : IntKind.i64.wrap ((p : Int) * 7 + 3) = (p : Int) * 7 + 3 := IntWalk.i64_in _ (by omega)
    obtain ⟨T, hT, T0, T1⟩ : ∃ T : Int, IntKind.i64.wrap (x * 131 + y * 1117 + (p : Int) * 29 + (d : Int) * 53) = T ∧ 0 ≤ T ∧ T ≤ 1000000000 := ⟨_, IntWalk.i64_in _ (by omega), by omega, by omega⟩
    obtain ⟨X, hX, X0⟩ := xor_pos T T0 T1
    have hm := Int.emod_lt_of_pos X (show 0 < n by omega)
    have hm0 := Int.emod_nonneg X (show n ≠ 0 by omega)
    go_enter Tryd.func16, Tryd.ntmps16
    go_wp2
    go_quiet (fail)
    go_wp2
    go_ret
    exact ⟨X % n, hm0, hm, rfl, S1.out, grown_drewN S2.out _⟩
end Go.Proofs.YtkjolmbcafonaaaDoor
