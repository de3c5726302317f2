/- The law FnFingers: fingers are nodes at doubling distances. Proved for every input, no condition: the law's Go function returns true, and each argument reads afterwards as it read before. -/
import Derived.Test.YtdlmkgplekcogaaSeat
import Derived.Test.YtdlmkgplekcogaaFing
import Derived.Test.YtdlmkgplekcogaaSame
import Derived.Test.YtdlmkgplekcogaaDraw5
import Derived.Test.YtdlmkgplekcogaaLnx
import Derived.WalkKit
import Derived.ProofKit
import Derived.OpenShut
import Derived.ShutString
import Derived.ChangeOld
import Derived.Below
namespace Go.Proofs.Ytdlmkgplekcogaa.FnFingers
open Go.ChangeShapes Go.WideShapes Go.ChangeAt Go.RowKit
open Go.ChangeMaps (open_string shut_string)
set_option linter.unusedVariables false
set_option maxHeartbeats 400000

theorem mem_nil_of (xs : List Int) (h : xs = []) : xs.length = 0 := by rw [h]; rfl
set_option maxHeartbeats 4000000 in
theorem walk (A : Option Addr) (c : Nat) (xs : List Int) (w : World) (w0 : Arg .u8 w A c xs) : Calls Try.prog 5 #[.slice A xs.length c] w fun e w' => e = .returned (.bool true) ∧ Below w.heap.size w w' := by
  have HO := Lib.hid (drawFing_any A c xs w w0)
  obtain ⟨hl, hc, -, -⟩ := w0
  unfold maxLen at hc
  by_cases hbig : 1048576 < xs.length
  · go_enter Try.func5, Try.ntmps5
    go_wp2
    go_ret
    exact ⟨rfl, Below.refl _ _⟩
  have hsm : xs.length ≤ 1048576 := by omega
  clear hbig hl hc
  go_enter Try.func5, Try.ntmps5
  go_wp2_with fail
  refine HO.out.mono ?_; rintro e w1 ⟨A1, c1, ys, id, rfl, ho, hy20, hyb, id0, id1, hB⟩
  clear HO
  have hmax : ys.length ≤ maxLen := by unfold maxLen; omega
  have H1 := Lib.hid (fgs_impl w1.heap.size A1 c1 ys id hmax w1 (Nat.le_refl _) ho.nums)
  go_wp2_with fail
  refine H1.out.mono ?_; rintro e w2 ⟨A2, c2, rfl, ho2, hb2⟩
  replace ho := ho.below hb2 (Nat.le_refl _)
  replace ho2 := ho2.base hB.size
  replace hB := below_next hB hb2
  clear H1 hb2
  have H2 := Lib.hid (fgs_spec w2.heap.size A1 c1 ys id hmax w2 (Nat.le_refl _) ho.nums)
  go_wp2_with fail
  refine H2.out.mono ?_; rintro e w3 ⟨A3, c3, rfl, ho3, hb3⟩
  replace ho := ho.below hb3 (Nat.le_refl _)
  replace ho2 := ho2.below hb3 (Nat.le_refl _)
  replace ho3 := ho3.base hB.size
  replace hB := below_next hB hb3
  clear H2 hb3
  have hvl := fgs_le ys id
  have hvm : (fgs ys id).length ≤ maxLen := by unfold maxLen; omega
  have HQ := fun (W : World) (h2 : OwnI W w.heap.size A2 c2 (fgs ys id)) (h3 : OwnI W w.heap.size A3 c3 (fgs ys id)) => Lib.hid (same_self W.heap.size A2 A3 c2 c3 _ hvm W h2.nums h3.nums)
  by_cases hv : nodeOk ys id = true
  · have HV := Lib.hid (fgs_yes hv)
    generalize hvs : fgs ys id = vs at HV HQ ho2 ho3 hvl hvm
    have HVS := Lib.hid hvs
    clear hvs
    go_wp2_with fail
    refine (HQ w3 ho2 ho3).out.mono ?_
    rintro e w4 ⟨rfl, hb4⟩
    replace ho := ho.below hb4 (Nat.le_refl _)
    replace ho2 := ho2.below hb4 (Nat.le_refl _)
    replace hB := below_next hB hb4
    clear ho3 HQ hb4
    obtain ⟨hnv, hid⟩ := nodeOk_iff.1 hv
    obtain ⟨p0, p1⟩ := pos_iff.1 (node_pos hnv hid)
    have HNV := Lib.hid hnv
    have he : vs = fingTo ys id 6 := HV.out
    subst he
    clear hv hnv hid HVS HV hvm hvl
    rw [fingTo_len]
    obtain ⟨g, rfl⟩ := ho2.some_ (by rw [fingTo_len]; omega)
    go_wp2_with fail
    go_loopw [7, 8] (fun t i wr => ∃ k : Nat, k ≤ 6 ∧ i = .int .i64 k ∧ t = .int .i64 ((2 : Int) ^ k) ∧ OwnI wr w.heap.size A1 c1 ys ∧ OwnI wr w.heap.size (some ⟨g, 0, none⟩) c2 (fingTo ys id 6) ∧ Below w.heap.size w wr) (fun _ i _ => 6 - (intOf i).toNat)
    case atStart => exact ⟨0, Nat.zero_le _, rfl, rfl, ho, ho2, hB⟩
    case round =>
      clear ho ho2 hB
      obtain ⟨k, hk, rfl, rfl, ho, ho2, hB⟩ := hrel
      by_cases hlt : k < 6
      · have d := own_at ho2 (fingTo_at ys id 6 k hlt)
        have HP := pow_step id k hlt p0 p1 ys HNV.out
        have HT := Lib.hid (Int.pow_succ (2 : Int) k)
        have hTb : 1 ≤ (2 : Int) ^ k ∧ (2 : Int) ^ k ≤ 32 := by rcases (by omega : k = 0 ∨ k = 1 ∨ k = 2 ∨ k = 3 ∨ k = 4 ∨ k = 5) with rfl | rfl | rfl | rfl | rfl | rfl <;> decide
        generalize fing ys id k = f at d HP
        generalize (2 : Int) ^ k = T at HP HT hTb
        have HPP := Lib.hid (show nnext ys ((IntKind.i64.wrap (id + T)).tmod 64) = f from by
          rw [IntKind.wrap_i64, show (id + T + 9223372036854775808) % 18446744073709551616 - 9223372036854775808 = id + T from by omega, Int.tmod_eq_emod_of_nonneg (by omega)]; exact HP)
        clear HP
        obtain ⟨hT0, hT1⟩ := hTb
        have hn := nnext_left wr.heap.size A1 c1 ys ((IntKind.i64.wrap (id + T)).tmod 64) hmax wr.drew (NumsAt.drewN ho.nums 1)
        rw [HPP.out] at hn
        have HN := Lib.hid hn
        clear hn
        go_wp2_with fail
        go_region_with (go_at_call 21; refine (HN.out).mono ?_; rintro e w' ⟨rfl, rfl⟩)
        all_goals
          go_wp2
          go_roundw
          case rel => exact ⟨k + 1, by omega, by go_num, by rw [HT.out, Int.mul_comm], ho.drewN 1, ho2.drewN 1, hB.drew⟩
          case measure => simp [intOf]; omega
      · have : k = 6 := by omega
        subst this
        go_wp2
        go_ret
        exact ⟨rfl, hB⟩
  · have HV := fgs_no hv
    rw [HV] at HQ ho2 ho3 ⊢
    clear HV hv hvl hvm
    go_wp2_with fail
    refine (HQ w3 ho2 ho3).out.mono ?_
    rintro e w4 ⟨rfl, hb4⟩
    have HB4 := below_next hB hb4
    go_wp2_with fail
    refine (HQ w4 (ho2.below hb4 (Nat.le_refl _)) (ho3.below hb4 (Nat.le_refl _))).out.mono ?_
    rintro e w5 ⟨rfl, hb5⟩
    go_wp2
    go_ret
    exact ⟨rfl, below_next HB4 hb5⟩

set_option maxRecDepth 100000 in
theorem lifted (os : Os) (started : os.Started) (H : Type) (enc : TypeId × Value → H) :
    ReturnsInHanded {} Try.checked os 5 .any (Rows.fnFingersSpec.pre6 enc Try.prog Try.f5 Rows.fnFingersRow.domain false) (Rows.fnFingersSpec.post enc Try.prog Try.f5 false true false false) := by
  refine returnsInHanded_of_change (C := Try.checked) own started (by kernel_rfl) Try.func5
    (ChangeSpec.witness6 (enc := enc) (C := Try.checked) false ⟨#[], #[.slice none 0 0], []⟩ 8 (by kernel_rfl) (by kernel_rfl) (by kernel_rfl) (by kernel_rfl)) ?_
  intro W base args ds gs before hval0 hW hcnd _
  have hval : ∀ (j : Nat) t v, Try.f5.params[j]? = some t → args[j]? = some v → Value.okWide Try.prog W .any base t v := hval0
  have hW' := hW
  obtain ⟨p, q, hA0, hV, rfl, hfz, hnd⟩ := hW
  have hA : DataW.TrodAll enc Try.prog W 0 (fun _ => true) true Try.f5.params.toList args.toList ds p := hA0
  rw [Try.params5] at hA hval
  obtain ⟨v0, vs0, d0, ds0, p0, q0, hargs, rfl, rfl, h0, r0⟩ := trodAll_cons hA
  obtain ⟨rfl, rfl, rfl⟩ := trodAll_nil r0
  obtain rfl : args = #[v0] := by cases args; simp_all
  obtain ⟨rfl, rfl⟩ := trodVars_none hV
  obtain ⟨A0, len0, c0, rfl⟩ := okWide_slice Try.underlying30 (hval 0 30 v0 rfl rfl)
  have k0 := h0
  have lt0 : ∀ x ∈ p0, x.block < W.heap.size := by obtain ⟨m, hm⟩ := k0; exact DataW.trod_lt m _ _ _ hm
  obtain ⟨xs0, rfl, w0⟩ : ∃ xs : List Int, xs.length = len0 ∧ Arg .u8 W A0 c0 xs := by
    obtain ⟨fuel, hf⟩ := h0
    rcases open_ints Try.underlying30 Try.underlying5 (by kernel_rfl) hf with ⟨hcs, _⟩ | ⟨x, l, c, zs, hcs, _, hl, hm, hz, _, hcell, hwz⟩
    · simp [Value.cells] at hcs
      obtain ⟨rfl, rfl, rfl⟩ := hcs
      exact Arg.none_
    · simp [Value.cells] at hcs
      obtain ⟨rfl, rfl, rfl⟩ := hcs
      exact Arg.row hl hm (by simpa using hz) hcell hwz
  clear hA0 hval0
  refine (walk A0 c0 xs0 W w0).mono fun e W' ⟨he, bel⟩ => ?_
  subst he
  exact ⟨_, rfl, _, _, _, [], _, [], hW', trodAll_mk1 (shut_bool Try.underlying4 _), (trodAll_cons_mk (Below.trod laidOut (by kernel_rfl) (of_decide_eq_true (by kernel_rfl)) k0 bel lt0) trodAll_mk0), rfl, bel.frame _, fun h => by cases h⟩

theorem nm : Try.f5.name = Rows.fnFingersRow.func := by kernel_rfl
theorem notMain : decide (Check.packageOf Rows.fnFingersRow.func = "main") = false := by kernel_rfl
theorem noWrapper : Func.isWrapper Try.prog Try.f5 Rows.fnFingersRow.wrapper Rows.fnFingersRow.mainSum := by
  unfold Func.isWrapper; rw [nm, if_neg (of_decide_eq_false notMain)]; exact ⟨rfl, rfl⟩
theorem closed : joinedFacts Try.prog 5 Try.f5 Rows.fnFingersSpec Rows.fnFingersRow = true := by
  unfold joinedFacts
  exact (andI (andI (andI (andI (andI (andI (andI (andI (andI (andI (andI (andI (andI (andI (andI (andI (andI (andI (andI (andI (andI (andI (andI (andI (andI (andI (andI (andI (andI (andI (andI (by kernel_rfl) laidOut) rowed) (by kernel_rfl)) (by kernel_rfl)) (by kernel_rfl)) (by kernel_rfl)) (by kernel_rfl)) (by kernel_rfl)) (by kernel_rfl)) (by kernel_rfl)) (by kernel_rfl)) (by kernel_rfl)) (by kernel_rfl)) (by kernel_rfl)) (by kernel_rfl)) (by kernel_rfl)) (by kernel_rfl)) (by kernel_rfl)) (by kernel_rfl)) (by kernel_rfl)) (by kernel_rfl)) (by rw [plain_keys]; kernel_rfl)) (by kernel_rfl)) heard) mayEnter) (by rw [liftsFinal]; kernel_rfl)) (by rw [makeCut]; kernel_rfl)) (by kernel_rfl)) (by kernel_rfl)) (by kernel_rfl)) (by kernel_rfl))
theorem noInstance : decide (Func.isInstance Try.prog Try.f5 Rows.fnFingersRow.origin Rows.fnFingersRow.targs) = true := by kernel_rfl
theorem named : Try.prog.funcNamed Rows.fnFingersRow.func = some 5 := by kernel_rfl
theorem over : Rows.fnFingersRow.holds Try.pinned (OpenSpec.ofChange Rows.fnFingersSpec) :=
  OpenClaim.holds_of_wide 5 Try.f5 rfl rfl rfl rfl rfl rfl rfl ⟨rfl, rfl, rfl, rfl, rfl⟩ rfl rfl rfl rfl rfl named Try.func5 closed
    (of_decide_eq_true noInstance) noWrapper
    (fun os started H enc _ => lifted os started H enc)

/-- The statement. -/
theorem proved : Rows.FnFingersSaid := over
#print axioms proved
end Go.Proofs.Ytdlmkgplekcogaa.FnFingers
