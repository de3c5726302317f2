/- Walks: LeaseRenew of the implementation and of the reference. -/
import Derived.Test.YtkjolmbcafonaaaLeaI
import Derived.Test.YtkjolmbcafonaaaClone
namespace Go.Proofs.Ytkjolmbcafonaaa
open Go.RowKit
set_option maxHeartbeats 2000000
set_option linter.unusedVariables false
def rnTo (xs : List Tri) (owner now till : Int) (k : Nat) : List Tri := (xs.take k).map (rn1 owner now till) ++ xs.drop k
theorem rnTo_zero (xs : List Tri) (owner now till : Int) : rnTo xs owner now till 0 = xs := by simp [rnTo]
theorem rnTo_all (xs : List Tri) (owner now till : Int) : rnTo xs owner now till xs.length = rnw xs owner now till := by simp [rnTo, rnw]
theorem rnTo_len (xs : List Tri) (owner now till : Int) (k : Nat) : (rnTo xs owner now till k).length = xs.length := by simp [rnTo]; omega
theorem rnTo_at {xs : List Tri} {owner now till : Int} {k : Nat} {x : Tri} (h : xs[k]? = some x) : (rnTo xs owner now till k)[k]? = some x := by
  have hk := (List.getElem?_eq_some_iff.1 h).1
  unfold rnTo
  have hl : ((xs.take k).map (rn1 owner now till)).length = k := by simp; omega
  rw [List.getElem?_append_right (by omega), hl, Nat.sub_self, List.getElem?_drop]
  simpa using h
theorem rnTo_set {xs : List Tri} {owner now till : Int} {k : Nat} {x : Tri} (h : xs[k]? = some x) : (rnTo xs owner now till k).set k (rn1 owner now till x) = rnTo xs owner now till (k + 1) := by
  obtain ⟨hk, rfl⟩ := List.getElem?_eq_some_iff.1 h
  unfold rnTo
  have hl : ((xs.take k).map (rn1 owner now till)).length = k := by simp; omega
  rw [List.set_append_right _ _ (by omega), hl, Nat.sub_self, List.drop_eq_getElem_cons hk, List.set_cons_zero, List.take_add_one, List.getElem?_eq_getElem hk]
  simp only [Option.toList, List.map_append, List.map_cons, List.map_nil, List.append_assoc, List.cons_append, List.nil_append]
theorem rnTo_yes {xs : List Tri} {owner now till : Int} {k : Nat} {x y z : Int} (h : xs[k]? = some (x, y, z)) (hok : rnOk owner now till (x, y, z) = true) : (rnTo xs owner now till k).set k (x, y, till) = rnTo xs owner now till (k + 1) := by
  rw [← rnTo_set h]; unfold rn1; rw [if_pos hok]
theorem rnTo_no {xs : List Tri} {owner now till : Int} {k : Nat} {x : Tri} (h : xs[k]? = some x) (hok : rnOk owner now till x = false) : rnTo xs owner now till (k + 1) = rnTo xs owner now till k := by
  rw [← rnTo_set h]; unfold rn1; rw [if_neg (by simp [hok])]
  have hk := rnTo_at (owner := owner) (now := now) (till := till) h
  obtain ⟨h1, h2⟩ := List.getElem?_eq_some_iff.1 hk
  rw [← h2, List.set_getElem_self]
theorem rn_yes {owner now till x y z : Int} (h1 : y = owner) (h2 : now ≤ z) (h3 : z < till) : rnOk owner now till (x, y, z) = true := by simp [rnOk, h1, h2, h3]
theorem rn_no1 {owner now till x y z : Int} (h1 : ¬ y = owner) : rnOk owner now till (x, y, z) = false := by simp [rnOk, h1]
theorem rn_no2 {owner now till x y z : Int} (h1 : ¬ now ≤ z) : rnOk owner now till (x, y, z) = false := by simp [rnOk]; omega
theorem rn_no3 {owner now till x y z : Int} (h1 : ¬ z < till) : rnOk owner now till (x, y, z) = false := by simp [rnOk]; omega
def rnGo (xs : List Tri) (owner now till : Int) : Bool := lval xs && (pos owner && (timeOk now && timeOk till))
def rnL (xs : List Tri) (owner now till : Int) : List Tri := if rnGo xs owner now till = true then rnw xs owner now till else []
def rnN (xs : List Tri) (owner now till : Int) : Int := if rnGo xs owner now till = true then (rnCnt xs owner now till xs.length : Int) else -1
theorem rn_le (xs : List Tri) (owner now till : Int) : (rnL xs owner now till).length ≤ 12 := by
  unfold rnL; split
  · next h => rw [rnw_len]; unfold rnGo at h; simp only [Bool.and_eq_true] at h; exact (lval_len h.1).2
  · simp
def RnRet (w : World) (L : List Tri) (n : Int) (e : Ending) (w' : World) : Prop := ∃ (A : Option Addr) (c : Nat), e = .returned (.tuple #[.slice A L.length c, .int .i64 n]) ∧ OwnT w' w.heap.size A c L ∧ Below w.heap.size w w'
theorem ret_row {A : Option Addr} {n n' c : Nat} {z z' : Int} (h : n = n') (h' : z = z') : Ending.returned (.tuple #[.slice A n c, .int .i64 z]) = .returned (.tuple #[.slice A n' c, .int .i64 z']) := by rw [h, h']
theorem rn_impl (B : Nat) (A : Option Addr) (c : Nat) (xs : List Tri) (owner now till : Int) (hl : xs.length ≤ c) (hc : c ≤ maxLen) (w : World) (hB : B ≤ w.heap.size) (h : TrisAt w B A xs) :
    Calls Try.prog 13 #[.slice A xs.length c, .int .i64 owner, .int .i64 now, .int .i64 till] w (RnRet w (rnL xs owner now till) (rnN xs owner now till)) := by
  have HA := Lib.hid (lv_impl B A c xs hl hc w hB h)
  cases hv : lval xs
  · have hgo : rnGo xs owner now till = false := by unfold rnGo; rw [hv]; rfl
    have HL := Lib.hid (show rnL xs owner now till = [] from by unfold rnL; rw [hgo]; rfl)
    have HN := Lib.hid (show rnN xs owner now till = -1 from by unfold rnN; rw [hgo]; rfl)
    clear h hgo
    go_enter Try.func13, Try.ntmps13
    go_wp2_with fail
    refine (HA.out).mono ?_; rw [hv]; rintro e w1 ⟨rfl, hb⟩
    go_wp2
    go_ret2
    refine ⟨none, 0, ret_row (by rw [HL.out]; rfl) HN.out.symm, by rw [HL.out]; exact OwnT.none_ _ _, ?_⟩
    first | exact hb | exact hb.alloc hb.size _
  cases hk : pos owner
  · have hgo : rnGo xs owner now till = false := by unfold rnGo; rw [hv, hk]; rfl
    have HL := Lib.hid (show rnL xs owner now till = [] from by unfold rnL; rw [hgo]; rfl)
    have HN := Lib.hid (show rnN xs owner now till = -1 from by unfold rnN; rw [hgo]; rfl)
    clear h hgo
    go_enter Try.func13, Try.ntmps13
    go_wp2_with fail
    refine (HA.out).mono ?_; rw [hv]; rintro e w1 ⟨rfl, hb⟩
    go_wp2_with (first
      | (go_at_call 22; refine (ok_any owner _).mono ?_; rw [hk]; rintro e w9 ⟨rfl, rfl⟩))
    go_ret2
    refine ⟨none, 0, ret_row (by rw [HL.out]; rfl) HN.out.symm, by rw [HL.out]; exact OwnT.none_ _ _, ?_⟩
    first | exact hb | exact hb.alloc hb.size _
  cases ht : timeOk now && timeOk till
  · have hgo : rnGo xs owner now till = false := by unfold rnGo; rw [hv, hk, ht]; rfl
    have HL := Lib.hid (show rnL xs owner now till = [] from by unfold rnL; rw [hgo]; rfl)
    have HN := Lib.hid (show rnN xs owner now till = -1 from by unfold rnN; rw [hgo]; rfl)
    clear h hgo
    go_enter Try.func13, Try.ntmps13
    go_wp2_with fail
    refine (HA.out).mono ?_; rw [hv]; rintro e w1 ⟨rfl, hb⟩
    go_wp2_with (first
      | (go_at_call 22; refine (ok_any owner _).mono ?_; rw [hk]; rintro e w9 ⟨rfl, rfl⟩)
      | (go_at_call 23; refine (times2 now till w1).mono ?_; rw [ht]; rintro e w9 ⟨rfl, rfl⟩))
    go_ret2
    refine ⟨none, 0, ret_row (by rw [HL.out]; rfl) HN.out.symm, by rw [HL.out]; exact OwnT.none_ _ _, ?_⟩
    first | exact hb | exact hb.alloc hb.size _
  have hgo : rnGo xs owner now till = true := by unfold rnGo; rw [hv, hk, ht]; rfl
  have HL := Lib.hid (show rnL xs owner now till = rnw xs owner now till from by unfold rnL; rw [if_pos hgo])
  have HN := Lib.hid (show rnN xs owner now till = (rnCnt xs owner now till xs.length : Int) from by unfold rnN; rw [if_pos hgo])
  obtain ⟨hl1, hl2⟩ := lval_len hv
  clear hgo
  have HC := fun (W : World) (hb : Below w.heap.size w W) => Lib.hid (cloneT_any B A c xs (by omega) (by omega) W (Nat.le_trans hB hb.size) (h.below (hb.mono hB)))
  clear h
  go_enter Try.func13, Try.ntmps13
  go_wp2_with fail
  refine (HA.out).mono ?_; rw [hv]; rintro e w1 ⟨rfl, hb⟩
  clear HA
  have hb1 : Below w.heap.size w (w1.alloc (.cells #[.int .i64 now, .int .i64 till] 3)) := hb.alloc hb.size _
  have HC1 := HC _ hb1
  clear HC hb
  go_wp2_with (first
      | (go_at_call 22; refine (ok_any owner _).mono ?_; rw [hk]; rintro e w9 ⟨rfl, rfl⟩)
      | (go_at_call 23; refine (times2 now till w1).mono ?_; rw [ht]; rintro e w9 ⟨rfl, rfl⟩)
      | (go_at_call 24; refine (HC1.out).mono ?_; rintro e w2 ⟨A1, c1, rfl, ho, hb2⟩))
  replace ho := ho.base hb1.size
  replace hb1 := below_next hb1 hb2
  clear hb2 HC1
  have HO := Lib.hid (show OwnT w2 w.heap.size A1 c1 (rnTo xs owner now till 0) from by rw [rnTo_zero]; exact ho)
  clear ho
  go_wp2_with fail
  go_loopw [11, 33] (fun n i wr => ∃ k : Nat, k ≤ xs.length ∧ i = .int .i64 k ∧ n = .int .i64 (rnCnt xs owner now till k : Int) ∧ OwnT wr w.heap.size A1 c1 (rnTo xs owner now till k) ∧ Below w.heap.size w wr) (fun _ i _ => xs.length - (intOf i).toNat)
  case atStart => exact ⟨0, Nat.zero_le _, rfl, rfl, HO.out, hb1⟩
  case round =>
    obtain ⟨k, hk1, rfl, rfl, ho, hb⟩ := hrel
    clear HO hb1
    have hcl := rnCnt_le xs owner now till k
    by_cases hlt : k < xs.length
    · obtain ⟨x, hx⟩ : ∃ x, xs[k]? = some x := ⟨_, List.getElem?_eq_getElem hlt⟩
      obtain ⟨x1, x2, x3⟩ := x
      have hx' := rnTo_at (owner := owner) (now := now) (till := till) hx
      obtain ⟨g, rfl⟩ := ho.some_ (by rw [rnTo_len]; omega)
      obtain ⟨c1', c2', c3'⟩ := ho.at_ hx'
      simp only at c1' c2' c3'
      have f3 := ho.free (k * 3 + 2)
      have HS := Lib.hid (rnCnt_succ (owner := owner) (now := now) (till := till) hx)
      have HY := Lib.hid (rnTo_yes (owner := owner) (now := now) (till := till) hx)
      have HNO := Lib.hid (rnTo_no (owner := owner) (now := now) (till := till) hx)
      have HP := Lib.hid (ho.put2 hx' till)
      have hgb : w.heap.size ≤ g := ho.row g rfl
      have hgl : g < wr.heap.size := World.block_lt_of_cell? wr _ c3'
      have HP2 := Lib.hid (fun o => (OwnT.alloc ho o).put2 hx' till)
      have HO := Lib.hid ho
      have HB := Lib.hid hb
      generalize hm : rnCnt xs owner now till k = m at HS hcl ⊢
      clear hx hx' ho hm hb
      by_cases e1 : x2 = owner
      · have e1b : (x2 == owner) = true := by simpa using e1
        by_cases e2 : now ≤ x3
        · by_cases e3 : x3 < till
          · have HR := Lib.hid (rn_yes (x := x1) e1 e2 e3)
            clear e1
            go_wp2
            go_roundw
            case rel => exact ⟨k + 1, by omega, by go_num, by rw [HS.out, if_pos HR.out]; go_num, by rw [← HY.out HR.out]; (first | exact HP.out.alloc _ | exact HP2.out _), by first | exact (HB.out.setCell (p := ⟨g, k * 3 + 2, none⟩) hgb _).alloc (by have := HB.out.size; simpa using this) _ | exact (HB.out.alloc HB.out.size _).setCell (p := ⟨g, k * 3 + 2, none⟩) hgb _⟩
            case measure => simp [intOf]; omega
          · have e1 := e1
            have HR := Lib.hid (rn_no3 (owner := owner) (now := now) (x := x1) (y := x2) e3)
            go_wp2
            go_roundw
            case rel => exact ⟨k + 1, by omega, by go_num, by rw [HS.out, if_neg (by simp [HR.out])]; rfl, by rw [HNO.out HR.out]; exact HO.out.alloc _, HB.out.alloc HB.out.size _⟩
            case measure => simp [intOf]; omega
        · have e2b := e2
          have HR := Lib.hid (rn_no2 (owner := owner) (till := till) (x := x1) (y := x2) e2)
          go_wp2
          go_roundw
          case rel => exact ⟨k + 1, by omega, by go_num, by rw [HS.out, if_neg (by simp [HR.out])]; rfl, by rw [HNO.out HR.out]; exact HO.out.alloc _, HB.out.alloc HB.out.size _⟩
          case measure => simp [intOf]; omega
      · have e1b : (x2 == owner) = false := by rw [beq_eq_false_iff_ne]; exact e1
        have HR := Lib.hid (rn_no1 (now := now) (till := till) (x := x1) (z := x3) e1)
        clear e1
        go_wp2
        go_roundw
        case rel => exact ⟨k + 1, by omega, by go_num, by rw [HS.out, if_neg (by simp [HR.out])]; rfl, by rw [HNO.out HR.out]; exact HO.out.alloc _, HB.out.alloc HB.out.size _⟩
        case measure => simp [intOf]; omega
    · have : k = xs.length := by omega
      subst this
      rw [rnTo_all] at ho
      go_wp2
      go_ret2
      exact ⟨A1, c1, ret_row (by rw [HL.out, rnw_len]) HN.out.symm, by rw [HL.out]; exact ho, hb⟩
theorem rn_spec (B : Nat) (A : Option Addr) (c : Nat) (xs : List Tri) (owner now till : Int) (hl : xs.length ≤ c) (hc : c ≤ maxLen) (w : World) (hB : B ≤ w.heap.size) (h : TrisAt w B A xs) :
    Calls Try.prog 14 #[.slice A xs.length c, .int .i64 owner, .int .i64 now, .int .i64 till] w (RnRet w (rnL xs owner now till) (rnN xs owner now till)) := by
  have HA := Lib.hid (lv_spec B A c xs hl hc w hB h)
  cases hv : lval xs
  · have hgo : rnGo xs owner now till = false := by unfold rnGo; rw [hv]; rfl
    have HL := Lib.hid (show rnL xs owner now till = [] from by unfold rnL; rw [hgo]; rfl)
    have HN := Lib.hid (show rnN xs owner now till = -1 from by unfold rnN; rw [hgo]; rfl)
    clear h hgo
    go_enter Try.func14, Try.ntmps14
    go_wp2_with fail
    refine (HA.out).mono ?_; rw [hv]; rintro e w1 ⟨rfl, hb⟩
    go_wp2
    go_ret2
    rw [HL.out, HN.out]
    exact ⟨_, 0, rfl, OwnT.empty _ hb.size, hb.alloc hb.size _⟩
  cases hk : pos owner
  · have hgo : rnGo xs owner now till = false := by unfold rnGo; rw [hv, hk]; rfl
    have HL := Lib.hid (show rnL xs owner now till = [] from by unfold rnL; rw [hgo]; rfl)
    have HN := Lib.hid (show rnN xs owner now till = -1 from by unfold rnN; rw [hgo]; rfl)
    clear h hgo
    go_enter Try.func14, Try.ntmps14
    go_wp2_with fail
    refine (HA.out).mono ?_; rw [hv]; rintro e w1 ⟨rfl, hb⟩
    go_wp2_with (first
      | (go_at_call 25; refine (point_val hk _).mono ?_; rintro e w9 ⟨rfl, hw9⟩; obtain rfl := hw9.symm))
    go_ret2
    rw [HL.out, HN.out]
    exact ⟨_, 0, rfl, OwnT.empty _ hb.size, hb.alloc hb.size _⟩
  cases hn : timeOk now
  · have hgo : rnGo xs owner now till = false := by unfold rnGo; rw [hv, hk, hn]; rfl
    have HL := Lib.hid (show rnL xs owner now till = [] from by unfold rnL; rw [hgo]; rfl)
    have HN := Lib.hid (show rnN xs owner now till = -1 from by unfold rnN; rw [hgo]; rfl)
    clear h hgo
    go_enter Try.func14, Try.ntmps14
    go_wp2_with fail
    refine (HA.out).mono ?_; rw [hv]; rintro e w1 ⟨rfl, hb⟩
    go_wp2_with (first
      | (go_at_call 25; refine (point_val hk _).mono ?_; rintro e w9 ⟨rfl, hw9⟩; obtain rfl := hw9.symm)
      | (go_at_call 26; (first | (with_reducible refine (stime_val hn _).mono ?_)); rintro e w9 ⟨rfl, hw9⟩; obtain rfl := hw9.symm))
    go_ret2
    rw [HL.out, HN.out]
    exact ⟨_, 0, rfl, OwnT.empty _ hb.size, hb.alloc hb.size _⟩
  cases hm : timeOk till
  · have hgo : rnGo xs owner now till = false := by unfold rnGo; rw [hv, hk, hn, hm]; rfl
    have HL := Lib.hid (show rnL xs owner now till = [] from by unfold rnL; rw [hgo]; rfl)
    have HN := Lib.hid (show rnN xs owner now till = -1 from by unfold rnN; rw [hgo]; rfl)
    clear h hgo
    go_enter Try.func14, Try.ntmps14
    go_wp2_with fail
    refine (HA.out).mono ?_; rw [hv]; rintro e w1 ⟨rfl, hb⟩
    go_wp2_with (first
      | (go_at_call 25; refine (point_val hk _).mono ?_; rintro e w9 ⟨rfl, hw9⟩; obtain rfl := hw9.symm)
      | (go_at_call 26; (first | (with_reducible refine (stime_val hn _).mono ?_) | (with_reducible refine (stime_val hm _).mono ?_)); rintro e w9 ⟨rfl, hw9⟩; obtain rfl := hw9.symm))
    go_ret2
    rw [HL.out, HN.out]
    exact ⟨_, 0, rfl, OwnT.empty _ hb.size, hb.alloc hb.size _⟩
  have hgo : rnGo xs owner now till = true := by unfold rnGo; rw [hv, hk, hn, hm]; rfl
  have HL := Lib.hid (show rnL xs owner now till = rnw xs owner now till from by unfold rnL; rw [if_pos hgo])
  have HN := Lib.hid (show rnN xs owner now till = (rnCnt xs owner now till xs.length : Int) from by unfold rnN; rw [if_pos hgo])
  obtain ⟨hl1, hl2⟩ := lval_len hv
  clear hgo
  obtain ⟨i0, hi, hz0, hz1, hz2⟩ := info_parts triInfo
  have HI := Lib.hid hi
  have HZ0 := Lib.hid hz0
  have HZ1 := Lib.hid hz1
  have HZ2 := Lib.hid hz2
  clear hi hz0 hz1 hz2
  go_enter Try.func14, Try.ntmps14
  go_wp2_with fail
  refine (HA.out).mono ?_; rw [hv]; rintro e w1 ⟨rfl, hb⟩
  clear HA
  have HE := Lib.hid (OwnT.empty w1 (Nat.le_refl w1.heap.size))
  have hbz : Below w.heap.size w (w1.alloc (.cells #[] 33)) := hb.alloc hb.size _
  have HS := Lib.hid ((h.below (hbz.mono hB)).src (by omega))
  have HBZ := Lib.hid hbz
  have hsz := hb.size
  clear h hbz
  go_wp2_with (first
      | (go_at_call 25; refine (point_val hk _).mono ?_; rintro e w9 ⟨rfl, hw9⟩; obtain rfl := hw9.symm)
      | (go_at_call 26; (first | (with_reducible refine (stime_val hn _).mono ?_) | (with_reducible refine (stime_val hm _).mono ?_)); rintro e w9 ⟨rfl, hw9⟩; obtain rfl := hw9.symm)
      | (at_builtin; refine list_appT rfl Try.underlying23 HI.out HZ0.out HZ1.out HZ2.out (.tmp 32) (.tmp 33) rfl (xs := []) rfl rfl HE.out rfl HS.out (by simp; omega) (by simp) ?_; intro A1 c1 w2 ho hg3 hat))
  have hb1 : Below w.heap.size w w2 := Below.grown HBZ.out hg3 (by simp; omega) (fun k e => by simp at e; omega)
  replace ho := ho.base hsz
  clear HE HS HBZ hg3 hat
  have HO := Lib.hid (show OwnT w2 w.heap.size A1 c1 (rnTo xs owner now till 0) from by rw [rnTo_zero]; exact ho)
  clear ho
  go_wp2_with fail
  go_loopw [11, 12] (fun n i wr => ∃ k : Nat, k ≤ xs.length ∧ i = .int .i64 k ∧ n = .int .i64 (rnCnt xs owner now till k : Int) ∧ OwnT wr w.heap.size A1 c1 (rnTo xs owner now till k) ∧ Below w.heap.size w wr) (fun _ i _ => xs.length - (intOf i).toNat)
  case atStart => exact ⟨0, Nat.zero_le _, rfl, rfl, HO.out, hb1⟩
  case round =>
    obtain ⟨k, hk1, rfl, rfl, ho, hb⟩ := hrel
    clear HO hb1
    have hcl := rnCnt_le xs owner now till k
    by_cases hlt : k < xs.length
    · obtain ⟨x, hx⟩ : ∃ x, xs[k]? = some x := ⟨_, List.getElem?_eq_getElem hlt⟩
      obtain ⟨x1, x2, x3⟩ := x
      have hx' := rnTo_at (owner := owner) (now := now) (till := till) hx
      obtain ⟨g, rfl⟩ := ho.some_ (by rw [rnTo_len]; omega)
      obtain ⟨c1', c2', c3'⟩ := ho.at_ hx'
      simp only at c1' c2' c3'
      have f3 := ho.free (k * 3 + 2)
      have HS := Lib.hid (rnCnt_succ (owner := owner) (now := now) (till := till) hx)
      have HY := Lib.hid (rnTo_yes (owner := owner) (now := now) (till := till) hx)
      have HNO := Lib.hid (rnTo_no (owner := owner) (now := now) (till := till) hx)
      have HP := Lib.hid (ho.put2 hx' till)
      have hgb : w.heap.size ≤ g := ho.row g rfl
      have hgl : g < wr.heap.size := World.block_lt_of_cell? wr _ c3'
      have HP2 := Lib.hid (fun o => (OwnT.alloc ho o).put2 hx' till)
      have HO := Lib.hid ho
      have HB := Lib.hid hb
      generalize hm : rnCnt xs owner now till k = m at HS hcl ⊢
      clear hx hx' ho hm hb
      by_cases e1 : x2 = owner
      · have e1b : (x2 == owner) = true := by simpa using e1
        by_cases e2 : now ≤ x3
        · by_cases e3 : x3 < till
          · have HR := Lib.hid (rn_yes (x := x1) e1 e2 e3)
            clear e1
            go_wp2
            go_roundw
            case rel => exact ⟨k + 1, by omega, by go_num, by rw [HS.out, if_pos HR.out]; go_num, by rw [← HY.out HR.out]; (first | exact HP.out | exact HP2.out _), by first | exact HB.out.setCell (p := ⟨g, k * 3 + 2, none⟩) hgb _ | exact (HB.out.alloc HB.out.size _).setCell (p := ⟨g, k * 3 + 2, none⟩) hgb _⟩
            case measure => simp [intOf]; omega
          · have e1 := e1
            have HR := Lib.hid (rn_no3 (owner := owner) (now := now) (x := x1) (y := x2) e3)
            go_wp2
            go_roundw
            case rel => exact ⟨k + 1, by omega, by go_num, by rw [HS.out, if_neg (by simp [HR.out])]; rfl, by rw [HNO.out HR.out]; exact HO.out, HB.out⟩
            case measure => simp [intOf]; omega
        · have e2b := e2
          have HR := Lib.hid (rn_no2 (owner := owner) (till := till) (x := x1) (y := x2) e2)
          go_wp2
          go_roundw
          case rel => exact ⟨k + 1, by omega, by go_num, by rw [HS.out, if_neg (by simp [HR.out])]; rfl, by rw [HNO.out HR.out]; exact HO.out, HB.out⟩
          case measure => simp [intOf]; omega
      · have e1b : (x2 == owner) = false := by rw [beq_eq_false_iff_ne]; exact e1
        have HR := Lib.hid (rn_no1 (now := now) (till := till) (x := x1) (z := x3) e1)
        clear e1
        go_wp2
        go_roundw
        case rel => exact ⟨k + 1, by omega, by go_num, by rw [HS.out, if_neg (by simp [HR.out])]; rfl, by rw [HNO.out HR.out]; exact HO.out, HB.out⟩
        case measure => simp [intOf]; omega
    · have : k = xs.length := by omega
      subst this
      rw [rnTo_all] at ho
      go_wp2
      go_ret2
      exact ⟨A1, c1, ret_row (by rw [HL.out, rnw_len]) HN.out.symm, by rw [HL.out]; exact ho, hb⟩
end Go.Proofs.Ytkjolmbcafonaaa
