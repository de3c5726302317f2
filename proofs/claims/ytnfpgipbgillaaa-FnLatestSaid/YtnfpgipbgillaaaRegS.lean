/- Walks: the reference's RegisterValid. -/
import Derived.Test.YtnfpgipbgillaaaRepS
import Derived.BigQuiet
namespace Go.Proofs.Ytnfpgipbgillaaa
open Go.RowKit
set_option maxHeartbeats 1000000
set_option linter.unusedVariables false
theorem older_lt {a1 a2 b1 b2 : Int} (h : a1 < b1) : repOlder a1 a2 b1 b2 = true := by simp [repOlder, h]
theorem older_lt2 {a1 a2 b2 : Int} (h : a2 < b2) : repOlder a1 a2 a1 b2 = true := by simp [repOlder, h]
theorem bad_diff1 {a1 a2 a3 b1 b2 b3 : Int} (h : ¬ b1 = a1) : (!badPair (a1, a2, a3) (b1, b2, b3)) = true := by
  rcases Int.lt_or_gt_of_ne h with h | h
  · exact bad_older' (older_lt h)
  · exact bad_older (older_lt h)
theorem bad_diff2 {a1 a2 a3 b2 b3 : Int} (h : ¬ b2 = a2) : (!badPair (a1, a2, a3) (a1, b2, b3)) = true := by
  rcases Int.lt_or_gt_of_ne h with h | h
  · exact bad_older' (older_lt2 h)
  · exact bad_older (older_lt2 h)
theorem rv_spec (B : Nat) (A : Option Addr) (c : Nat) (xs : List Tri) (hl : xs.length ≤ c) (hc : c ≤ maxLen) (w : World) (hB : B ≤ w.heap.size) (h : TrisAt w B A xs) :
    Calls Try.prog 10 #[.slice A xs.length c] w fun e w' => e = .returned (.bool (regVal xs)) ∧ Below w.heap.size w w' := by
  unfold maxLen at hc
  have HV := Lib.hid (show regVal xs = ((decide (1 ≤ (xs.length : Int)) && decide ((xs.length : Int) ≤ 5)) && rvTo xs xs.length) from by unfold regVal; congr 1; rw [Bool.eq_iff_iff]; simp; omega)
  go_enter Try.func10, Try.ntmps10
  go_wp2_with fail
  go_loopw [3] (fun i wr => ∃ k : Nat, k ≤ xs.length ∧ i = .int .i64 k ∧ rvTo xs k = true ∧ Below w.heap.size w wr) (fun i _ => xs.length - (intOf i).toNat)
  case atStart => exact ⟨0, Nat.zero_le _, rfl, rfl, Below.refl _ _⟩
  case round =>
    obtain ⟨k, hk, rfl, hall, hb⟩ := hrel
    have Hall := Lib.hid hall
    clear hall
    by_cases hlt : k < xs.length
    · obtain ⟨b, off, rfl⟩ := h.some_ (by omega)
      obtain ⟨x, hx⟩ : ∃ x, xs[k]? = some x := ⟨_, List.getElem?_eq_getElem hlt⟩
      obtain ⟨x1, x2, x3⟩ := x
      obtain ⟨c1, c2, c3⟩ := (h.below (hb.mono hB)).at_ hx
      simp only at c1 c2 c3
      have HX := Lib.hid hx
      have HA := Lib.hid (rvAt_some hx)
      have HS := Lib.hid (rvTo_succ xs k)
      have HF := Lib.hid (rv_false k hlt)
      clear hx
      cases hok : repOk x1 x2 x3
      · go_wp2_with (go_at_call 23; refine (repOk_spec _ _ _ _).mono ?_; rintro e w2 ⟨rfl, hb2⟩)
        go_ret
        exact ⟨ret_bool (by rw [HV.out, HF.out (by rw [HA.out, hok]; rfl), Bool.and_false]), below_next (w1 := wr) hb hb2⟩
      · go_wp2_with fail
        refine (repOk_spec _ _ _ _).mono ?_
        rintro e w2 ⟨rfl, hb2⟩
        rw [hok]
        have hB5 : Below w.heap.size w w2 := below_next (w1 := wr) hb hb2
        clear hb2 c1 c2 c3 hb
        go_wp2_with fail
        go_loopw [4] (fun j w5 => ∃ m : Nat, m ≤ k ∧ j = .int .i64 m ∧ (xs.take m).all (fun y => !badPair (x1, x2, x3) y) = true ∧ Below w.heap.size w w5) (fun j _ => k - (intOf j).toNat)
        case atStart => exact ⟨0, Nat.zero_le _, rfl, rfl, hB5⟩
        case round =>
          rename World => w5
          obtain ⟨m, hm, rfl, hall5, hb5⟩ := hrel
          clear hB5
          have HH := Lib.hid hall5
          clear hall5
          by_cases hlt5 : m < k
          · obtain ⟨y, hy⟩ : ∃ y, xs[m]? = some y := ⟨_, List.getElem?_eq_getElem (by omega)⟩
            obtain ⟨y1, y2, y3⟩ := y
            obtain ⟨c1, c2, c3⟩ := (h.below (hb5.mono hB)).at_ hy
            obtain ⟨d1, d2, d3⟩ := (h.below (hb5.mono hB)).at_ HX.out
            simp only at c1 c2 c3 d1 d2 d3
            have HY := Lib.hid hy
            clear hy
            by_cases h1 : y1 = x1
            · subst h1
              by_cases h2 : y2 = x2
              · subst h2
                by_cases h3 : y3 = x3
                · subst h3
                  go_wp2_with fail
                  go_quiet (fail)
                  go_wp2_with fail
                  refine ⟨⟨m + 1, by omega, rfl, take_all_succ HH.out HY.out (bad_same _ _ _), below_next hb5 (below_draw ⟨_, rfl⟩)⟩, ?_⟩
                  simp only [intOf]; omega
                · go_wp2_with fail
                  go_quiet (fail)
                  go_wp2_with fail
                  go_ret
                  exact ⟨ret_bool (by rw [HV.out, HF.out (by rw [HA.out, take_all_no hlt5 HY.out (bad_yes (fun e => h3 e.symm))]; simp), Bool.and_false]), below_next hb5 (below_draw ⟨_, rfl⟩)⟩
              · have he : (y2 == x2) = false := by simpa using h2
                go_wp2_with fail
                go_quiet (fail)
                go_wp2_with fail
                refine ⟨⟨m + 1, by omega, rfl, take_all_succ HH.out HY.out (bad_diff2 h2), below_next hb5 (below_draw ⟨_, rfl⟩)⟩, ?_⟩
                simp only [intOf]; omega
            · have he : (y1 == x1) = false := by simpa using h1
              go_wp2_with fail
              go_quiet (fail)
              go_wp2_with fail
              refine ⟨⟨m + 1, by omega, rfl, take_all_succ HH.out HY.out (bad_diff1 h1), below_next hb5 (below_draw ⟨_, rfl⟩)⟩, ?_⟩
              simp only [intOf]; omega
          · have : m = k := by omega
            subst this
            go_wp2_with fail
            refine ⟨⟨m + 1, by omega, rfl, by rw [HS.out, Hall.out, HA.out, hok, HH.out]; rfl, hb5⟩, ?_⟩
            simp only [intOf]; omega
    · clear h
      go_wp2_with fail
      refine (in_any _ _ _ _).mono ?_; rintro e w' ⟨rfl, rfl⟩
      go_wp2
      go_ret
      have : k = xs.length := by omega
      subst this
      exact ⟨ret_bool (by rw [HV.out, Hall.out, Bool.and_true]), hb⟩
end Go.Proofs.Ytnfpgipbgillaaa
