/- Walks: the laws' helpers that write numbers into a slice of integers and read them again: markIntS, heldIntS. -/
import Derived.Test.YtmhneigglmingaaApp
namespace Go.Proofs.Ytmhneigglmingaa
open Go.RowKit
set_option maxHeartbeats 400000
set_option linter.unusedVariables false
/-- n numbers from s on. -/
def upFrom (s : Int) (n : Nat) : List Int := (List.range n).map fun (j : Nat) => s + (j : Int)
theorem upFrom_len (s : Int) (n : Nat) : (upFrom s n).length = n := by simp [upFrom]
theorem upFrom_at (s : Int) (n k : Nat) (hk : k < n) : (upFrom s n)[k]? = some (s + (k : Int)) := by simp [upFrom, hk]
theorem upFrom_succ (s : Int) (n : Nat) : upFrom s (n + 1) = upFrom s n ++ [s + (n : Int)] := by simp [upFrom, List.range_succ]
def markTo (xs : List Int) (s : Int) (k : Nat) : List Int := upFrom s k ++ xs.drop k
theorem markTo_zero (xs : List Int) (s : Int) : markTo xs s 0 = xs := by simp [markTo, upFrom]
theorem markTo_all (xs : List Int) (s : Int) : markTo xs s xs.length = upFrom s xs.length := by simp [markTo]
theorem markTo_len (xs : List Int) (s : Int) (k : Nat) (hk : k ≤ xs.length) : (markTo xs s k).length = xs.length := by simp [markTo, upFrom_len]; omega
theorem markTo_set (xs : List Int) (s : Int) (k : Nat) (hk : k < xs.length) : (markTo xs s k).set k (s + (k : Int)) = markTo xs s (k + 1) := by
  unfold markTo
  rw [List.set_append_right _ _ (by rw [upFrom_len]; omega), upFrom_len, Nat.sub_self, List.drop_eq_getElem_cons hk, List.set_cons_zero, upFrom_succ, List.append_assoc]
  rfl
theorem OwnI.put {w : World} {base g c : Nat} {xs : List Int} (h : OwnI w base (some ⟨g, 0, none⟩) c xs) (i : Nat) (x : Int) : OwnI (w.setCell ⟨g, i, none⟩ (.int .i64 x)) base (some ⟨g, 0, none⟩) c (xs.set i x) := by
  have := (World.ownsRow.stored h i (.int .i64 x)).1
  unfold OwnI
  rw [List.length_set, List.map_set]
  exact this
theorem grown_put {w w' : World} {g : Nat} (h : w.grownBy w' (some g)) (i : Nat) (u : Value) : w.grownBy (w'.setCell ⟨g, i, none⟩ u) (some g) :=
  ⟨h.os, h.tape, h.output, by simpa [World.setCell] using h.size, fun k hk hne => (Below.heap_setCell w' ⟨g, i, none⟩ u k (by simp only; intro e; exact hne (by rw [e]))).trans (h.block k hk hne)⟩
theorem mark_any (base : Nat) (A : Option Addr) (c : Nat) (xs : List Int) (s : Int) (hs : 0 ≤ s) (hs' : s ≤ 1125899906842624) (hl : xs.length ≤ 1048576) (w : World) (h : OwnI w base A c xs) :
    Calls Try.prog 18 #[.slice A xs.length c, .int .i64 s] w fun e w' => e = .returned (.int .i64 (s + (xs.length : Int))) ∧ OwnI w' base A c (upFrom s xs.length) ∧ w.grownBy w' (A.map (·.block)) := by
  have hg := World.grownBy.refl w (A.map (·.block))
  rw [← markTo_zero xs s] at h
  have HL := Lib.hid h
  go_enter Try.func18, Try.ntmps18
  go_wp2
  go_loopw [1, 5] (fun k i wr => ∃ j : Nat, j ≤ xs.length ∧ i = .int .i64 j ∧ k = .int .i64 (s + j) ∧ OwnI wr base A c (markTo xs s j) ∧ w.grownBy wr (A.map (·.block))) (fun _ i _ => xs.length - (intOf i).toNat)
  case atStart => exact ⟨0, Nat.zero_le _, rfl, by simp, HL.out, hg⟩
  case round =>
    obtain ⟨j, hj, rfl, rfl, ho, hgr⟩ := hrel
    clear h hg HL
    by_cases hlt : j < xs.length
    · have hlen : j < (markTo xs s j).length := by rw [markTo_len xs s j hj]; exact hlt
      obtain ⟨g, rfl⟩ := ho.some_ (by omega)
      have hc := ho.cells j _ (List.getElem?_eq_getElem hlen)
      rw [add_at, Nat.zero_add] at hc
      have hf := World.ownsRow.frozenAt ho j
      obtain ⟨y, hy⟩ : ∃ y, (markTo xs s j)[j] = y := ⟨_, rfl⟩
      rw [hy] at hc
      clear hy hlen
      have HM := Lib.hid (markTo_set xs s j hlt)
      go_wp2
      go_roundw
      case rel => exact ⟨j + 1, by omega, by go_num, by go_num, by have := ho.put j (s + (j : Int)); rwa [HM.out] at this, grown_put hgr j _⟩
      case measure => simp [intOf]; omega
    · have : j = xs.length := by omega
      subst this
      go_wp2
      go_ret
      exact ⟨rfl, by rw [markTo_all] at ho; exact ho, hgr⟩
theorem held_any (B : Nat) (A : Option Addr) (c : Nat) (s : Int) (n : Nat) (hs : 0 ≤ s) (hs' : s ≤ 1125899906842624) (hl : n ≤ 1048576) (w : World) (h : NumsAt .i64 w B A (upFrom s n)) :
    Calls Try.prog 23 #[.slice A n c, .int .i64 s] w fun e w' => e = .returned (.int .i64 (s + (n : Int))) ∧ ∃ m, w' = w.drewN m := by
  go_enter Try.func23, Try.ntmps23
  go_wp2
  go_loopw [1, 5] (fun k i wr => ∃ j : Nat, j ≤ n ∧ i = .int .i64 j ∧ k = .int .i64 (s + j) ∧ ∃ m, wr = w.drewN m) (fun _ i _ => n - (intOf i).toNat)
  case atStart => exact ⟨0, Nat.zero_le _, rfl, by simp, 0, rfl⟩
  case round =>
    obtain ⟨j, hj, rfl, rfl, hw⟩ := hrel
    have HW := Lib.hid hw
    replace h : NumsAt .i64 wr B A (upFrom s n) := by obtain ⟨n, rfl⟩ := hw; exact h.drewN n
    clear hw
    by_cases hlt : j < n
    · obtain ⟨ad, x, rfl, -, hx, hc⟩ := h j (by rw [upFrom_len]; exact hlt)
      rw [upFrom_at s n j hlt] at hx
      injection hx with hx
      subst hx
      clear h
      go_wp2
      go_roundw
      case rel => exact ⟨j + 1, by omega, by go_num, by go_num, HW.out⟩
      case measure => simp [intOf]; omega
    · have : j = n := by omega
      subst this
      clear h
      go_wp2
      go_ret
      exact ⟨rfl, HW.out⟩
end Go.Proofs.Ytmhneigglmingaa
