/- Walks: does a node skip a position: skips of the implementation, l3Skipped of the reference; slices.ContainsFunc over a ring. -/
import Derived.Test.YtmhneigglmingaaIds
import Derived.Test.YtmhneigglmingaaCirB
namespace Go.Proofs.Ytmhneigglmingaa
open Go.RowKit
set_option maxHeartbeats 1000000
set_option linter.unusedVariables false
/-- From a position along a list: is x between two that follow one another? -/
def skp (last x : Int) : List Int → Bool
  | [] => false
  | t :: l => btw last x t || skp t x l
theorem skp_cons (last x t : Int) (l : List Int) : skp last x (t :: l) = (btw last x t || skp t x l) := rfl
theorem skp_nil (last x : Int) : skp last x [] = false := rfl
theorem btw_raw {a x b : Int} (h1 : pos a = true) (h2 : pos x = true) (h3 : pos b = true) : btw a x b = rbtw a x b := by unfold btw; rw [h1, h2, h3]; rfl
theorem skips_impl (x1 x2 : Int) (A : Option Addr) (c : Nat) (l : List Int) (x : Int) (hl : l.length ≤ 1048576) (w : World) (h : NumsAt .i64 w w.heap.size A l) :
    Calls Try.prog 44 #[.agg #[.int .i64 x1, .int .i64 x2, .slice A l.length c], .int .i64 x] w fun e w' => e = .returned (.bool (skp x1 x l)) ∧ Below w.heap.size w w' := by
  have hA : Below w.heap.size w (w.alloc (.cells #[.int .i64 x1, .int .i64 x2, .slice A l.length c] 41 (0, 0))) := (Below.refl _ _).alloc (Nat.le_refl _) _
  go_enter Try.func44, Try.ntmps44
  go_wp2_with fail
  go_loopw [5, 13] (fun f i wr => ∃ (k : Nat) (y : Int), k ≤ l.length ∧ i = .int .i64 k ∧ f = .int .i64 y ∧ skp x1 x l = skp y x (l.drop k) ∧ Below w.heap.size w wr) (fun _ i _ => l.length - (intOf i).toNat)
  case atStart => exact ⟨0, x1, Nat.zero_le _, rfl, rfl, rfl, hA⟩
  case round =>
    obtain ⟨k, y, hk, rfl, rfl, hs, hb⟩ := hrel
    clear hA
    by_cases hlt : k < l.length
    · obtain ⟨ad, z, rfl, -, hz, hc⟩ := (h.below hb) k hlt
      rw [List.drop_eq_getElem_cons hlt, skp_cons] at hs
      rw [List.getElem?_eq_getElem hlt] at hz
      injection hz with hz
      rw [hz] at hs
      have HS := Lib.hid hs
      have HC := Lib.hid (cb_impl y x z wr)
      clear h hs hz
      cases hbt : btw y x z
      · rw [hbt] at HC HS
        go_wp2_with fail
        refine (HC.out).mono ?_; rintro e w2 ⟨rfl, hb2⟩
        go_wp2
        go_roundw
        case rel => exact ⟨k + 1, z, by omega, by go_num, rfl, by rw [HS.out]; rfl, below_next (w1 := wr) hb hb2⟩
        case measure => simp [intOf]; omega
      · rw [hbt] at HC HS
        go_wp2_with fail
        refine (HC.out).mono ?_; rintro e w2 ⟨rfl, hb2⟩
        go_wp2
        go_ret
        exact ⟨ret_bool (by rw [HS.out]; rfl), below_next (w1 := wr) hb hb2⟩
    · clear h
      have : k = l.length := by omega
      subst this
      rw [List.drop_length] at hs
      have HS := Lib.hid hs
      clear hs
      go_wp2
      go_ret
      exact ⟨ret_bool (by rw [HS.out]; rfl), hb⟩
theorem skips_spec (x1 x2 : Int) (A : Option Addr) (c : Nat) (l : List Int) (x : Int) (hl : l.length ≤ 1048576) (h1 : pos x1 = true) (h2 : pos x = true) (h3 : l.all pos = true) (w : World) (h : NumsAt .i64 w w.heap.size A l) :
    Calls Try.prog 56 #[.agg #[.int .i64 x1, .int .i64 x2, .slice A l.length c], .int .i64 x] w fun e w' => e = .returned (.bool (skp x1 x l)) ∧ Below w.heap.size w w' := by
  have hA : Below w.heap.size w (w.alloc (.cells #[.int .i64 x1, .int .i64 x2, .slice A l.length c] 41 (0, 0))) := (Below.refl _ _).alloc (Nat.le_refl _) _
  have hn := h.below hA
  obtain ⟨e1, e2, e3⟩ := cells3 (alloc_top w (.cells #[.int .i64 x1, .int .i64 x2, .slice A l.length c] 41 (0, 0)))
  have HA := Lib.hid hA
  clear h hA
  go_enter Try.func56, Try.ntmps56
  go_wp2_with fail
  go_loop [5, 6] (fun f i => ∃ (k : Nat) (y : Int), k ≤ l.length ∧ i = .int .i64 k ∧ f = .int .i64 y ∧ pos y = true ∧ skp x1 x l = skp y x (l.drop k)) (fun _ i => l.length - (intOf i).toNat)
  case atStart => exact ⟨0, x1, Nat.zero_le _, rfl, rfl, h1, rfl⟩
  case round =>
    obtain ⟨k, y, hk, rfl, rfl, hy, hs⟩ := hrel
    by_cases hlt : k < l.length
    · obtain ⟨ad, z, rfl, -, hz, hc⟩ := hn k hlt
      have hpz : pos z = true := List.all_eq_true.1 h3 z (List.mem_of_getElem? hz)
      rw [List.drop_eq_getElem_cons hlt, skp_cons] at hs
      rw [List.getElem?_eq_getElem hlt] at hz
      injection hz with hz
      rw [hz, btw_raw hy h2 hpz] at hs
      have HS := Lib.hid hs
      have HC := fun W => Lib.hid (sbtw_any y x z W)
      have HP := Lib.hid hpz
      clear hn hs hz hpz h3 hy h1 h2
      cases hbt : rbtw y x z
      · rw [hbt] at HC HS
        go_wp2_with (go_at_call 66; refine ((HC _).out).mono ?_; rintro e w9 ⟨rfl, hw9⟩; obtain rfl := hw9)
        go_round
        case rel => exact ⟨k + 1, z, by omega, by go_num, rfl, HP.out, by rw [HS.out]; rfl⟩
        case measure => simp [intOf]; omega
      · rw [hbt] at HC HS
        go_wp2_with (go_at_call 66; refine ((HC _).out).mono ?_; rintro e w9 ⟨rfl, hw9⟩; obtain rfl := hw9)
        go_ret
        exact ⟨ret_bool (by rw [HS.out]; rfl), HA.out⟩
    · have : k = l.length := by omega
      subst this
      rw [List.drop_length] at hs
      have HS := Lib.hid hs
      clear hn hs h3 hy h1 h2
      go_wp2
      go_ret
      exact ⟨ret_bool (by rw [HS.out]; rfl), HA.out⟩
end Go.Proofs.Ytmhneigglmingaa
