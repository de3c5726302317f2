/- The law FnRenew: a lease is renewed only before it expires. Proved for every input, no condition: the law's Go function returns true, and each argument reads afterwards as it read before. -/
import Derived.Test.YtkjolmbcafonaaaSeat
import Derived.Test.YtkjolmbcafonaaaDrawT
import Derived.Test.YtkjolmbcafonaaaRen
import Derived.Test.YtkjolmbcafonaaaSameT
import Derived.WalkKit
import Derived.ProofKit
import Derived.OpenShut
import Derived.ShutString
import Derived.ChangeOld
import Derived.Below
namespace Go.Proofs.Ytkjolmbcafonaaa.FnRenew
open Go.ChangeShapes Go.WideShapes Go.ChangeAt Go.RowKit
open Go.ChangeMaps (open_string shut_string)
set_option linter.unusedVariables false
set_option maxHeartbeats 400000

set_option maxHeartbeats 4000000 in
theorem walk (A : Option Addr) (c : Nat) (xs : List Int) (w : World) (w0 : Arg .u8 w A c xs) : Calls Try.prog 4 #[.slice A xs.length c] w fun e w' => e = .returned (.bool true) ∧ Below w.heap.size w w' := by
  have HO := Lib.hid (drawRen_any A c xs w w0)
  obtain ⟨hl, hc, -, -⟩ := w0
  unfold maxLen at hc
  by_cases hbig : 1048576 < xs.length
  · go_enter Try.func4, Try.ntmps4
    go_wp2
    go_ret
    exact ⟨rfl, Below.refl _ _⟩
  have hsm : xs.length ≤ 1048576 := by omega
  clear hbig hl hc
  go_enter Try.func4, Try.ntmps4
  go_wp2_with fail
  refine HO.out.mono ?_; rintro e w1 ⟨A1, c1, ys, owner, now, till, rfl, ho, hy12, -, -, -, hB⟩
  clear HO
  obtain ⟨hlc, hcm⟩ := ho.len
  have hvl := rn_le ys owner now till
  have HI := fun (W : World) (h : OwnT W w.heap.size A1 c1 ys) => Lib.hid (rn_impl W.heap.size A1 c1 ys owner now till hlc hcm W (Nat.le_refl _) h.tris)
  have HS := fun (W : World) (h : OwnT W w.heap.size A1 c1 ys) => Lib.hid (rn_spec W.heap.size A1 c1 ys owner now till hlc hcm W (Nat.le_refl _) h.tris)
  have hvm : (rnL ys owner now till).length ≤ maxLen := by unfold maxLen; omega
  cases hgo : rnGo ys owner now till
  · have hL : rnL ys owner now till = [] := by unfold rnL; rw [hgo]; rfl
    have hN : rnN ys owner now till = -1 := by unfold rnN; rw [hgo]; rfl
    rw [hL, hN] at HI HS
    rw [hL] at hvm
    clear hL hN hvl
    go_wp2_with fail
    refine (HI w1 ho).out.mono ?_; rintro e w2 ⟨A2, c2, rfl, ho2, hb2⟩
    replace ho := ho.below hb2 (Nat.le_refl _)
    replace hB := below_next hB hb2
    clear hb2
    go_wp2_with fail
    refine (HS w2 ho).out.mono ?_; rintro e w3 ⟨A3, c3, rfl, ho3, hb3⟩
    replace ho2 := ho2.below hb3 (Nat.le_refl _)
    replace hB := below_next hB hb3
    have HO2 := Lib.hid ho2
    have HO3 := Lib.hid ho3
    clear hb3 ho2 ho3 ho HI HS hcm hlc
    go_wp2_with fail
    refine (sameT_self hvm _ HO2.out HO3.out).mono ?_; rintro e w4 ⟨rfl, hd4⟩
    replace HO2 := Lib.hid (HO2.out.below (below_draw hd4) (Nat.le_refl _))
    replace HO3 := Lib.hid (HO3.out.below (below_draw hd4) (Nat.le_refl _))
    replace hB := below_next hB (below_draw hd4)
    clear hd4
    go_wp2_with fail
    refine (sameT_self hvm _ HO2.out HO3.out).mono ?_; rintro e w5 ⟨rfl, hd5⟩
    go_wp2
    go_ret
    exact ⟨rfl, below_next hB (below_draw hd5)⟩
  · have hL : rnL ys owner now till = rnw ys owner now till := by unfold rnL; rw [if_pos hgo]
    have hN : rnN ys owner now till = (rnCnt ys owner now till ys.length : Int) := by unfold rnN; rw [if_pos hgo]
    have hcl := rnCnt_le ys owner now till ys.length
    have HGO := Lib.hid hgo
    have HLL := Lib.hid hL
    clear hL hgo
    rw [hN] at HI HS
    clear hN
    generalize hm : rnCnt ys owner now till ys.length = m at HI HS hcl
    generalize hLe : rnL ys owner now till = L at HI HS hvm hvl HLL
    have HM := Lib.hid hm
    have HLE := Lib.hid hLe
    clear hm hLe
    have hm0 : ¬ (m : Int) < 0 := by omega
    go_wp2_with fail
    refine (HI w1 ho).out.mono ?_; rintro e w2 ⟨A2, c2, rfl, ho2, hb2⟩
    replace ho := ho.below hb2 (Nat.le_refl _)
    replace ho2 := ho2.base hB.size
    replace hB := below_next hB hb2
    clear hb2
    go_wp2_with fail
    refine (HS w2 ho).out.mono ?_; rintro e w3 ⟨A3, c3, rfl, ho3, hb3⟩
    replace ho := ho.below hb3 (Nat.le_refl _)
    replace ho2 := ho2.below hb3 (Nat.le_refl _)
    replace hB := below_next hB hb3
    have HO1 := Lib.hid ho
    have HO2 := Lib.hid ho2
    have HO3 := Lib.hid ho3
    clear hb3 ho2 ho3 ho HI HS
    go_wp2_with fail
    refine (sameT_self hvm _ HO2.out HO3.out).mono ?_; rintro e w4 ⟨rfl, hd4⟩
    replace HO1 := Lib.hid (HO1.out.below (below_draw hd4) (Nat.le_refl _))
    replace HO2 := Lib.hid (HO2.out.below (below_draw hd4) (Nat.le_refl _))
    replace hB := below_next hB (below_draw hd4)
    clear hd4 HO3
    have HLN := Lib.hid (show L.length = ys.length from by rw [HLL.out, rnw_len])
    have HE := Lib.hid (fun (k : Nat) (x : Tri) (hx : ys[k]? = some x) => (show L[k]? = some (rn1 owner now till x) from by rw [HLL.out]; unfold rnw; rw [List.getElem?_map, hx]; rfl))
    clear HLL
    go_wp2_with fail
    go_loopw [11, 12] (fun n i wr => ∃ k : Nat, k ≤ ys.length ∧ i = .int .i64 k ∧ n = .int .i64 (rnCnt ys owner now till k : Int) ∧ OwnT wr w.heap.size A1 c1 ys ∧ OwnT wr w.heap.size A2 c2 L ∧ Below w.heap.size w wr) (fun _ i _ => ys.length - (intOf i).toNat)
    case atStart => exact ⟨0, Nat.zero_le _, rfl, rfl, HO1.out, HO2.out, hB⟩
    case round =>
      clear HO1 HO2 hB
      obtain ⟨k, hk, rfl, rfl, ho, ho2, hB⟩ := hrel
      by_cases hlt : k < ys.length
      · obtain ⟨x, hx⟩ : ∃ x, ys[k]? = some x := ⟨_, List.getElem?_eq_getElem hlt⟩
        obtain ⟨x1, x2, x3⟩ := x
        obtain ⟨g, rfl⟩ := ho.some_ (by omega)
        obtain ⟨g2, rfl⟩ := ho2.some_ (by rw [HLN.out]; omega)
        obtain ⟨q1, q2, q3⟩ := ho.at_ hx
        simp only at q1 q2 q3
        have hgl : g < wr.heap.size := World.block_lt_of_cell? wr _ q1
        have hgl2 : g2 < wr.heap.size := (OwnT.block (o := 0) (s := none) ho2).2
        have hlL : (k : Int) < (L.length : Int) := by rw [HLN.out]; omega
        have hcl2 := rnCnt_le ys owner now till k
        have HS := Lib.hid (rnCnt_succ (owner := owner) (now := now) (till := till) hx)
        have HA := Lib.hid ho
        have HB2 := Lib.hid ho2
        generalize hm : rnCnt ys owner now till k = mm at HS hcl2 ⊢
        by_cases e1 : x2 = owner
        · have e1b : (x2 == owner) = true := by simpa using e1
          by_cases e2 : now ≤ x3
          · by_cases e3 : x3 < till
            · have HR := Lib.hid (rn_yes (x := x1) e1 e2 e3)
              have hy := HE.out k _ hx
              rw [show rn1 owner now till (x1, x2, x3) = (x1, x2, till) from by unfold rn1; rw [if_pos HR.out]] at hy
              obtain ⟨d1, d2, d3⟩ := ho2.at_ hy
              simp only at d1 d2 d3
              clear hx hy ho ho2 hm e1
              go_wp2_with fail
              go_quiet (fail)
              go_wp2
              go_roundw
              case rel => exact ⟨k + 1, by omega, by go_num, by rw [HS.out, if_pos HR.out]; go_num, (HA.out.alloc _).drewN _, (HB2.out.alloc _).drewN _, below_dn (hB.alloc hB.size _) _⟩
              case measure => simp [intOf]; omega
            · have e3b := e3
              clear e1
              have HR := Lib.hid (rn_no3 (owner := owner) (now := now) (x := x1) (y := x2) e3)
              have hy := HE.out k _ hx
              rw [show rn1 owner now till (x1, x2, x3) = (x1, x2, x3) from by unfold rn1; rw [if_neg (by simp [HR.out])]] at hy
              obtain ⟨d1, d2, d3⟩ := ho2.at_ hy
              simp only at d1 d2 d3
              clear hx hy ho ho2 hm
              go_wp2_with fail
              go_quiet (fail)
              go_wp2
              go_roundw
              case rel => exact ⟨k + 1, by omega, by go_num, by rw [HS.out, if_neg (by simp [HR.out])]; rfl, (HA.out.alloc _).drewN _, (HB2.out.alloc _).drewN _, below_dn (hB.alloc hB.size _) _⟩
              case measure => simp [intOf]; omega
          · have e2b := e2
            clear e1
            have HR := Lib.hid (rn_no2 (owner := owner) (till := till) (x := x1) (y := x2) e2)
            have hy := HE.out k _ hx
            rw [show rn1 owner now till (x1, x2, x3) = (x1, x2, x3) from by unfold rn1; rw [if_neg (by simp [HR.out])]] at hy
            obtain ⟨d1, d2, d3⟩ := ho2.at_ hy
            simp only at d1 d2 d3
            clear hx hy ho ho2 hm
            go_wp2_with fail
            go_quiet (fail)
            go_wp2
            go_roundw
            case rel => exact ⟨k + 1, by omega, by go_num, by rw [HS.out, if_neg (by simp [HR.out])]; rfl, (HA.out.alloc _).drewN _, (HB2.out.alloc _).drewN _, below_dn (hB.alloc hB.size _) _⟩
            case measure => simp [intOf]; omega
        · have e1b : (x2 == owner) = false := by rw [beq_eq_false_iff_ne]; exact e1
          have HR := Lib.hid (rn_no1 (now := now) (till := till) (x := x1) (z := x3) e1)
          have hy := HE.out k _ hx
          rw [show rn1 owner now till (x1, x2, x3) = (x1, x2, x3) from by unfold rn1; rw [if_neg (by simp [HR.out])]] at hy
          obtain ⟨d1, d2, d3⟩ := ho2.at_ hy
          simp only at d1 d2 d3
          clear hx hy ho ho2 hm e1
          go_wp2_with fail
          go_quiet (fail)
          go_wp2
          go_roundw
          case rel => exact ⟨k + 1, by omega, by go_num, by rw [HS.out, if_neg (by simp [HR.out])]; rfl, (HA.out.alloc _).drewN _, (HB2.out.alloc _).drewN _, below_dn (hB.alloc hB.size _) _⟩
          case measure => simp [intOf]; omega
      · have : k = ys.length := by omega
        subst this
        have hmm : (rnCnt ys owner now till ys.length : Int) = (m : Int) := by rw [HM.out]
        have hLL : (L.length : Int) = (ys.length : Int) := by rw [HLN.out]
        go_wp2
        go_ret
        exact ⟨rfl, hB⟩

set_option maxRecDepth 100000 in
theorem lifted (os : Os) (started : os.Started) (H : Type) (enc : TypeId × Value → H) :
    ReturnsInHanded {} Try.checked os 4 .any (Rows.fnRenewSpec.pre6 enc Try.prog Try.f4 Rows.fnRenewRow.domain false) (Rows.fnRenewSpec.post enc Try.prog Try.f4 false true false false) := by
  refine returnsInHanded_of_change (C := Try.checked) own started (by kernel_rfl) Try.func4
    (ChangeSpec.witness6 (enc := enc) (C := Try.checked) false ⟨#[], #[.slice none 0 0], []⟩ 8 (by kernel_rfl) (by kernel_rfl) (by kernel_rfl) (by kernel_rfl)) ?_
  intro W base args ds gs before hval0 hW hcnd _
  have hval : ∀ (j : Nat) t v, Try.f4.params[j]? = some t → args[j]? = some v → Value.okWide Try.prog W .any base t v := hval0
  have hW' := hW
  obtain ⟨p, q, hA0, hV, rfl, hfz, hnd⟩ := hW
  have hA : DataW.TrodAll enc Try.prog W 0 (fun _ => true) true Try.f4.params.toList args.toList ds p := hA0
  rw [Try.params4] at hA hval
  obtain ⟨v0, vs0, d0, ds0, p0, q0, hargs, rfl, rfl, h0, r0⟩ := trodAll_cons hA
  obtain ⟨rfl, rfl, rfl⟩ := trodAll_nil r0
  obtain rfl : args = #[v0] := by cases args; simp_all
  obtain ⟨rfl, rfl⟩ := trodVars_none hV
  obtain ⟨A0, len0, c0, rfl⟩ := okWide_slice Try.underlying22 (hval 0 22 v0 rfl rfl)
  have k0 := h0
  have lt0 : ∀ x ∈ p0, x.block < W.heap.size := by obtain ⟨m, hm⟩ := k0; exact DataW.trod_lt m _ _ _ hm
  obtain ⟨xs0, rfl, w0⟩ : ∃ xs : List Int, xs.length = len0 ∧ Arg .u8 W A0 c0 xs := by
    obtain ⟨fuel, hf⟩ := h0
    rcases open_ints Try.underlying22 Try.underlying5 (by kernel_rfl) hf with ⟨hcs, _⟩ | ⟨x, l, c, zs, hcs, _, hl, hm, hz, _, hcell, hwz⟩
    · simp [Value.cells] at hcs
      obtain ⟨rfl, rfl, rfl⟩ := hcs
      exact Arg.none_
    · simp [Value.cells] at hcs
      obtain ⟨rfl, rfl, rfl⟩ := hcs
      exact Arg.row hl hm (by simpa using hz) hcell hwz
  clear hA0 hval0
  refine (walk A0 c0 xs0 W w0).mono fun e W' ⟨he, bel⟩ => ?_
  subst he
  exact ⟨_, rfl, _, _, _, [], _, [], hW', trodAll_mk1 (shut_bool Try.underlying4 _), (trodAll_cons_mk (Below.trod laidOut (by kernel_rfl) (of_decide_eq_true (by kernel_rfl)) k0 bel lt0) trodAll_mk0), rfl, bel.frame _, fun h => by cases h⟩

theorem nm : Try.f4.name = Rows.fnRenewRow.func := by kernel_rfl
theorem notMain : decide (Check.packageOf Rows.fnRenewRow.func = "main") = false := by kernel_rfl
theorem noWrapper : Func.isWrapper Try.prog Try.f4 Rows.fnRenewRow.wrapper Rows.fnRenewRow.mainSum := by
  unfold Func.isWrapper; rw [nm, if_neg (of_decide_eq_false notMain)]; exact ⟨rfl, rfl⟩
theorem closed : joinedFacts Try.prog 4 Try.f4 Rows.fnRenewSpec Rows.fnRenewRow = true := by
  unfold joinedFacts
  exact (andI (andI (andI (andI (andI (andI (andI (andI (andI (andI (andI (andI (andI (andI (andI (andI (andI (andI (andI (andI (andI (andI (andI (andI (andI (andI (andI (andI (andI (andI (andI (by kernel_rfl) laidOut) rowed) (by kernel_rfl)) (by kernel_rfl)) (by kernel_rfl)) (by kernel_rfl)) (by kernel_rfl)) (by kernel_rfl)) (by kernel_rfl)) (by kernel_rfl)) (by kernel_rfl)) (by kernel_rfl)) (by kernel_rfl)) (by kernel_rfl)) (by kernel_rfl)) (by kernel_rfl)) (by kernel_rfl)) (by kernel_rfl)) (by kernel_rfl)) (by kernel_rfl)) (by kernel_rfl)) (by rw [plain_keys]; kernel_rfl)) (by kernel_rfl)) heard) mayEnter) (by rw [liftsFinal]; kernel_rfl)) (by rw [makeCut]; kernel_rfl)) (by kernel_rfl)) (by kernel_rfl)) (by kernel_rfl)) (by kernel_rfl))
theorem noInstance : decide (Func.isInstance Try.prog Try.f4 Rows.fnRenewRow.origin Rows.fnRenewRow.targs) = true := by kernel_rfl
theorem named : Try.prog.funcNamed Rows.fnRenewRow.func = some 4 := by kernel_rfl
theorem over : Rows.fnRenewRow.holds Try.pinned (OpenSpec.ofChange Rows.fnRenewSpec) :=
  OpenClaim.holds_of_wide 4 Try.f4 rfl rfl rfl rfl rfl rfl rfl ⟨rfl, rfl, rfl, rfl, rfl⟩ rfl rfl rfl rfl rfl named Try.func4 closed
    (of_decide_eq_true noInstance) noWrapper
    (fun os started H enc _ => lifted os started H enc)

/-- The statement. -/
theorem proved : Rows.FnRenewSaid := over
#print axioms proved
end Go.Proofs.Ytkjolmbcafonaaa.FnRenew
