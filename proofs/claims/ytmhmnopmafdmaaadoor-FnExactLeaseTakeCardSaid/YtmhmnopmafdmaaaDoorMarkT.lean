/- Walks: the laws' helpers that write numbers into a slice of structs and read them again: markLeaseS, heldLeaseS. -/
import Derived.Test.YtmhmnopmafdmaaaDoorAppT
namespace Go.Proofs.YtmhmnopmafdmaaaDoor
open Go.RowKit
set_option maxHeartbeats 1000000
set_option linter.unusedVariables false
/-- n structs of numbers from s on. -/
def upT (s : Int) (n : Nat) : List Tri := (List.range n).map fun (j : Nat) => (s + 3 * (j : Int), s + 3 * (j : Int) + 1, s + 3 * (j : Int) + 1 + 1)
theorem upT_len (s : Int) (n : Nat) : (upT s n).length = n := by simp [upT]
theorem upT_at (s : Int) (n k : Nat) (hk : k < n) : (upT s n)[k]? = some (s + 3 * (k : Int), s + 3 * (k : Int) + 1, s + 3 * (k : Int) + 1 + 1) := by simp [upT, hk]
theorem upT_succ (s : Int) (n : Nat) : upT s (n + 1) = upT s n ++ [(s + 3 * (n : Int), s + 3 * (n : Int) + 1, s + 3 * (n : Int) + 1 + 1)] := by simp [upT, List.range_succ]
def markT (xs : List Tri) (s : Int) (k : Nat) : List Tri := upT s k ++ xs.drop k
theorem markT_zero (xs : List Tri) (s : Int) : markT xs s 0 = xs := by simp [markT, upT]
theorem markT_all (xs : List Tri) (s : Int) : markT xs s xs.length = upT s xs.length := by simp [markT]
theorem markT_len (xs : List Tri) (s : Int) (k : Nat) (hk : k ≤ xs.length) : (markT xs s k).length = xs.length := by simp [markT, upT_len]; omega
theorem markT_set (xs : List Tri) (s : Int) (k : Nat) (hk : k < xs.length) : (markT xs s k).set k (s + 3 * (k : Int), s + 3 * (k : Int) + 1, s + 3 * (k : Int) + 1 + 1) = markT xs s (k + 1) := by
  unfold markT
  rw [List.set_append_right _ _ (by rw [upT_len]; omega), upT_len, Nat.sub_self, List.drop_eq_getElem_cons hk, List.set_cons_zero, upT_succ, List.append_assoc]
  rfl
theorem markT_any (base : Nat) (A : Option Addr) (c : Nat) (xs : List Tri) (s : Int) (hs : 0 ≤ s) (hs' : s ≤ 1048576) (hl : xs.length ≤ 1048576) (w : World) (h : OwnT w base A c xs) :
    Calls Tryd.prog 9 #[.slice A xs.length c, .int .i64 s] w fun e w' => e = .returned (.int .i64 (s + 3 * (xs.length : Int))) ∧ OwnT w' base A c (upT s xs.length) ∧ w.grownBy w' (A.map (·.block)) := by
  have hg := World.grownBy.refl w (A.map (·.block))
  rw [← markT_zero xs s] at h
  have HL := Lib.hid h
  go_enter Tryd.func9, Tryd.ntmps9
  go_wp2
  go_loopw [1, 5] (fun k i wr => ∃ j : Nat, j ≤ xs.length ∧ i = .int .i64 j ∧ k = .int .i64 (s + 3 * j) ∧ OwnT wr base A c (markT xs s j) ∧ w.grownBy wr (A.map (·.block))) (fun _ i _ => xs.length - (intOf i).toNat)
  case atStart => exact ⟨0, Nat.zero_le _, rfl, by simp, HL.out, hg⟩
  case round =>
    obtain ⟨j, hj, rfl, rfl, ho, hgr⟩ := hrel
    clear h hg HL
    by_cases hlt : j < xs.length
    · have hlen : j < (markT xs s j).length := by rw [markT_len xs s j hj]; exact hlt
      obtain ⟨g, rfl⟩ := ho.some_ (by omega)
      obtain ⟨y, hy⟩ : ∃ y, (markT xs s j)[j]? = some y := ⟨_, List.getElem?_eq_getElem hlen⟩
      obtain ⟨y1, y2, y3⟩ := y
      obtain ⟨c1, c2, c3⟩ := ho.at_ hy
      simp only at c1 c2 c3
      have f1 := ho.free (j * 3)
      have f2 := ho.free (j * 3 + 1)
      have f3 := ho.free (j * 3 + 2)
      have HO := Lib.hid (ho.put3 hy (s + 3 * (j : Int)) (s + 3 * (j : Int) + 1) (s + 3 * (j : Int) + 1 + 1))
      have HM := Lib.hid (markT_set xs s j hlt)
      have HG := Lib.hid hgr
      clear ho hlen hy hgr
      go_wp2
      go_roundw
      case rel => exact ⟨j + 1, by omega, by go_num, by go_num, by have := HO.out; rwa [HM.out] at this, grown_put (grown_put (grown_put HG.out _ _) _ _) _ _⟩
      case measure => simp [intOf]; omega
    · have : j = xs.length := by omega
      subst this
      go_wp2
      go_ret
      exact ⟨rfl, by rw [markT_all] at ho; exact ho, hgr⟩
theorem heldT_any (B : Nat) (A : Option Addr) (c : Nat) (s : Int) (n : Nat) (hs : 0 ≤ s) (hs' : s ≤ 1048576) (hl : n ≤ 1048576) (w : World) (h : TrisAt w B A (upT s n)) :
    Calls Tryd.prog 10 #[.slice A n c, .int .i64 s] w fun e w' => e = .returned (.int .i64 (s + 3 * (n : Int))) ∧ ∃ m, w' = w.drewN m := by
  go_enter Tryd.func10, Tryd.ntmps10
  go_wp2
  go_loopw [1, 5] (fun k i wr => ∃ j : Nat, j ≤ n ∧ i = .int .i64 j ∧ k = .int .i64 (s + 3 * j) ∧ ∃ m, wr = w.drewN m) (fun _ i _ => n - (intOf i).toNat)
  case atStart => exact ⟨0, Nat.zero_le _, rfl, by simp, 0, rfl⟩
  case round =>
    obtain ⟨j, hj, rfl, rfl, hw⟩ := hrel
    have HW := Lib.hid hw
    replace h : TrisAt wr B A (upT s n) := by obtain ⟨n, rfl⟩ := hw; exact h.drewN n
    clear hw
    by_cases hlt : j < n
    · obtain ⟨b, off, x, y, z, rfl, -, hx, c1, c2, c3⟩ := h j (by rw [upT_len]; exact hlt)
      rw [upT_at s n j hlt] at hx
      injection hx with hx
      injection hx with h1 h2
      injection h2 with h2 h3
      subst h1 h2 h3
      clear h
      go_wp2
      go_roundw
      case rel => exact ⟨j + 1, by omega, by go_num, by go_num, by first | exact HW.out | exact drewN_more HW.out⟩
      case measure => simp [intOf]; omega
    · have : j = n := by omega
      subst this
      clear h
      go_wp2
      go_ret
      exact ⟨rfl, HW.out⟩
end Go.Proofs.YtmhmnopmafdmaaaDoor
