/- The law FnLookupRangeOne: a single key is held by one node. Proved for every input, no condition: the law's Go function returns true, and each argument reads afterwards as it read before. -/
import Derived.Test.YtdlmkgplekcogaaSeat
import Derived.Test.YtdlmkgplekcogaaRng
import Derived.Test.YtdlmkgplekcogaaSame
import Derived.Test.YtdlmkgplekcogaaDraw5
import Derived.Test.YtdlmkgplekcogaaLnx
import Derived.WalkKit
import Derived.ProofKit
import Derived.OpenShut
import Derived.ShutString
import Derived.ChangeOld
import Derived.Below
namespace Go.Proofs.Ytdlmkgplekcogaa.FnLookupRangeOne
open Go.ChangeShapes Go.WideShapes Go.ChangeAt Go.RowKit
open Go.ChangeMaps (open_string shut_string)
set_option linter.unusedVariables false
set_option maxHeartbeats 400000

theorem rngL_yes {xs : List Int} {a b : Int} (h : nval xs = true ∧ pos a = true ∧ pos b = true) : ∃ m, lrng xs a b = rngTo xs a (m + 1) := by
  have := dst_bd a b
  unfold lrng; rw [if_pos h]
  exact ⟨(dst a b).toNat, by congr 1; omega⟩
theorem rngL_no {xs : List Int} {a b : Int} (h : ¬ (nval xs = true ∧ pos a = true ∧ pos b = true)) : lrng xs a b = [] := lrng_no h
theorem rng_self {xs : List Int} {a : Int} (h : nval xs = true) (ha : pos a = true) : lrng xs a a = [nxt xs a] := by
  have e : dst a a = ((0 : Nat) : Int) := by unfold dst; omega
  rw [lrng_yes h ha ha e, rng_single ha]
set_option maxHeartbeats 4000000 in
theorem walk (A : Option Addr) (c : Nat) (xs : List Int) (w : World) (w0 : Arg .u8 w A c xs) : Calls Try.prog 7 #[.slice A xs.length c] w fun e w' => e = .returned (.bool true) ∧ Below w.heap.size w w' := by
  have HO := Lib.hid (drawRng_any A c xs w w0)
  obtain ⟨hl, hc, -, -⟩ := w0
  unfold maxLen at hc
  by_cases hbig : 1048576 < xs.length
  · go_enter Try.func7, Try.ntmps7
    go_wp2
    go_ret
    exact ⟨rfl, Below.refl _ _⟩
  have hsm : xs.length ≤ 1048576 := by omega
  clear hbig hl hc
  go_enter Try.func7, Try.ntmps7
  go_wp2_with fail
  refine HO.out.mono ?_; rintro e w1 ⟨A1, c1, ys, a, b, rfl, ho, hy20, hyb, ⟨a0, a1⟩, ⟨b0, b1⟩, hB⟩
  clear HO
  have hmax : ys.length ≤ maxLen := by unfold maxLen; omega
  have H1 := Lib.hid (lrng_impl w1.heap.size A1 c1 ys a b hmax w1 (Nat.le_refl _) ho.nums)
  go_wp2_with fail
  refine H1.out.mono ?_; rintro e w2 ⟨A2, c2, rfl, ho2, hb2⟩
  replace ho := ho.below hb2 (Nat.le_refl _)
  replace ho2 := ho2.base hB.size
  replace hB := below_next hB hb2
  clear H1 hb2
  have H2 := Lib.hid (lrng_spec w2.heap.size A1 c1 ys a b hmax w2 (Nat.le_refl _) ho.nums)
  go_wp2_with fail
  refine H2.out.mono ?_; rintro e w3 ⟨A3, c3, rfl, ho3, hb3⟩
  replace ho := ho.below hb3 (Nat.le_refl _)
  replace ho2 := ho2.below hb3 (Nat.le_refl _)
  replace ho3 := ho3.base hB.size
  replace hB := below_next hB hb3
  clear H2 hb3
  have hvl := lrng_le ys a b
  have hvm : (lrng ys a b).length ≤ maxLen := by unfold maxLen; omega
  have HQ := fun (W : World) (h2 : OwnI W w.heap.size A2 c2 (lrng ys a b)) (h3 : OwnI W w.heap.size A3 c3 (lrng ys a b)) => Lib.hid (same_self W.heap.size A2 A3 c2 c3 _ hvm W h2.nums h3.nums)
  by_cases hv : nval ys = true ∧ pos a = true ∧ pos b = true
  · have HV := Lib.hid (rngL_yes hv)
    generalize hvs : lrng ys a b = vs at HV HQ ho2 ho3 hvl hvm
    have HVS := Lib.hid hvs
    clear hvs
    go_wp2_with fail
    refine (HQ w3 ho2 ho3).out.mono ?_
    rintro e w4 ⟨rfl, hb4⟩
    replace ho := ho.below hb4 (Nat.le_refl _)
    replace ho2 := ho2.below hb4 (Nat.le_refl _)
    replace hB := below_next hB hb4
    clear ho3 HQ hb4
    obtain ⟨hnv, hpa, hpb⟩ := hv
    have HN := fun (W : World) (h : OwnI W w.heap.size A1 c1 ys) => Lib.hid (nnext_left W.heap.size A1 c1 ys a hmax W h.nums)
    have HNN := Lib.hid (nnext_yes hnv hpa)
    have HH := Lib.hid (hold_zero (xs := ys) hpa)
    have HR := Lib.hid (rng_self hnv hpa)
    have h0 := HV.out
    obtain ⟨m, hm⟩ := h0
    have hd0 : vs[0]? = some (nxt ys a) := by rw [hm, ← hold_zero (xs := ys) hpa]; exact rng_head m
    have hvl1 : 1 ≤ vs.length := by have := (List.getElem?_eq_some_iff.1 hd0).1; omega
    have HD0 := Lib.hid hd0
    have hb20 : vs.length ≤ 64 := hvl
    clear hnv hpa hpb HVS HV hvm hvl hm hd0
    have H5 := Lib.hid (lrng_impl w4.heap.size A1 c1 ys a a hmax w4 (Nat.le_refl _) ho.nums)
    obtain ⟨g, rfl⟩ := ho2.some_ (by omega)
    go_wp2_with fail
    refine H5.out.mono ?_
    rw [HR.out]
    rintro e w5 ⟨A5, c5, rfl, ho5, hb5⟩
    replace ho := ho.below hb5 (Nat.le_refl _)
    replace ho2 := ho2.below hb5 (Nat.le_refl _)
    replace hB := below_next hB hb5
    obtain ⟨g5, rfl⟩ := ho5.some_ (by simp)
    have d5 := own_at ho5 (j := 0) rfl
    have d2 := own_at ho2 HD0.out
    have HNX := fun n => Lib.hid (show Calls Try.prog 21 #[.slice A1 ys.length c1, .int .i64 a] (w5.drewN n) (fun e w' => e = .returned (.int .i64 (nxt ys a)) ∧ w' = w5.drewN n) from by
      have := nnext_left w5.heap.size A1 c1 ys a hmax (w5.drewN n) (NumsAt.drewN ho.nums n)
      rwa [HNN.out] at this)
    generalize nxt ys a = q at d5 d2 HNX
    clear HN H5 HD0 HR HH HNN ho ho2 ho5 hb5
    go_wp2_with fail
    go_quiet ((go_at_call 21; exact Calls.quiet_of_same ((HNX _).out)))
    go_wp2
    go_ret
    exact ⟨rfl, below_next hB (below_draw ⟨_, rfl⟩)⟩
  · have HV := rngL_no hv
    rw [HV] at HQ ho2 ho3 ⊢
    clear HV hv hvl hvm
    go_wp2_with fail
    refine (HQ w3 ho2 ho3).out.mono ?_
    rintro e w4 ⟨rfl, hb4⟩
    have HB4 := below_next hB hb4
    go_wp2_with fail
    refine (HQ w4 (ho2.below hb4 (Nat.le_refl _)) (ho3.below hb4 (Nat.le_refl _))).out.mono ?_
    rintro e w5 ⟨rfl, hb5⟩
    go_wp2
    go_ret
    exact ⟨rfl, below_next HB4 hb5⟩

set_option maxRecDepth 100000 in
theorem lifted (os : Os) (started : os.Started) (H : Type) (enc : TypeId × Value → H) :
    ReturnsInHanded {} Try.checked os 7 .any (Rows.fnLookupRangeOneSpec.pre6 enc Try.prog Try.f7 Rows.fnLookupRangeOneRow.domain false) (Rows.fnLookupRangeOneSpec.post enc Try.prog Try.f7 false true false false) := by
  refine returnsInHanded_of_change (C := Try.checked) own started (by kernel_rfl) Try.func7
    (ChangeSpec.witness6 (enc := enc) (C := Try.checked) false ⟨#[], #[.slice none 0 0], []⟩ 8 (by kernel_rfl) (by kernel_rfl) (by kernel_rfl) (by kernel_rfl)) ?_
  intro W base args ds gs before hval0 hW hcnd _
  have hval : ∀ (j : Nat) t v, Try.f7.params[j]? = some t → args[j]? = some v → Value.okWide Try.prog W .any base t v := hval0
  have hW' := hW
  obtain ⟨p, q, hA0, hV, rfl, hfz, hnd⟩ := hW
  have hA : DataW.TrodAll enc Try.prog W 0 (fun _ => true) true Try.f7.params.toList args.toList ds p := hA0
  rw [Try.params7] at hA hval
  obtain ⟨v0, vs0, d0, ds0, p0, q0, hargs, rfl, rfl, h0, r0⟩ := trodAll_cons hA
  obtain ⟨rfl, rfl, rfl⟩ := trodAll_nil r0
  obtain rfl : args = #[v0] := by cases args; simp_all
  obtain ⟨rfl, rfl⟩ := trodVars_none hV
  obtain ⟨A0, len0, c0, rfl⟩ := okWide_slice Try.underlying30 (hval 0 30 v0 rfl rfl)
  have k0 := h0
  have lt0 : ∀ x ∈ p0, x.block < W.heap.size := by obtain ⟨m, hm⟩ := k0; exact DataW.trod_lt m _ _ _ hm
  obtain ⟨xs0, rfl, w0⟩ : ∃ xs : List Int, xs.length = len0 ∧ Arg .u8 W A0 c0 xs := by
    obtain ⟨fuel, hf⟩ := h0
    rcases open_ints Try.underlying30 Try.underlying5 (by kernel_rfl) hf with ⟨hcs, _⟩ | ⟨x, l, c, zs, hcs, _, hl, hm, hz, _, hcell, hwz⟩
    · simp [Value.cells] at hcs
      obtain ⟨rfl, rfl, rfl⟩ := hcs
      exact Arg.none_
    · simp [Value.cells] at hcs
      obtain ⟨rfl, rfl, rfl⟩ := hcs
      exact Arg.row hl hm (by simpa using hz) hcell hwz
  clear hA0 hval0
  refine (walk A0 c0 xs0 W w0).mono fun e W' ⟨he, bel⟩ => ?_
  subst he
  exact ⟨_, rfl, _, _, _, [], _, [], hW', trodAll_mk1 (shut_bool Try.underlying4 _), (trodAll_cons_mk (Below.trod laidOut (by kernel_rfl) (of_decide_eq_true (by kernel_rfl)) k0 bel lt0) trodAll_mk0), rfl, bel.frame _, fun h => by cases h⟩

theorem nm : Try.f7.name = Rows.fnLookupRangeOneRow.func := by kernel_rfl
theorem notMain : decide (Check.packageOf Rows.fnLookupRangeOneRow.func = "main") = false := by kernel_rfl
theorem noWrapper : Func.isWrapper Try.prog Try.f7 Rows.fnLookupRangeOneRow.wrapper Rows.fnLookupRangeOneRow.mainSum := by
  unfold Func.isWrapper; rw [nm, if_neg (of_decide_eq_false notMain)]; exact ⟨rfl, rfl⟩
theorem closed : joinedFacts Try.prog 7 Try.f7 Rows.fnLookupRangeOneSpec Rows.fnLookupRangeOneRow = true := by
  unfold joinedFacts
  exact (andI (andI (andI (andI (andI (andI (andI (andI (andI (andI (andI (andI (andI (andI (andI (andI (andI (andI (andI (andI (andI (andI (andI (andI (andI (andI (andI (andI (andI (andI (andI (by kernel_rfl) laidOut) rowed) (by kernel_rfl)) (by kernel_rfl)) (by kernel_rfl)) (by kernel_rfl)) (by kernel_rfl)) (by kernel_rfl)) (by kernel_rfl)) (by kernel_rfl)) (by kernel_rfl)) (by kernel_rfl)) (by kernel_rfl)) (by kernel_rfl)) (by kernel_rfl)) (by kernel_rfl)) (by kernel_rfl)) (by kernel_rfl)) (by kernel_rfl)) (by kernel_rfl)) (by kernel_rfl)) (by rw [plain_keys]; kernel_rfl)) (by kernel_rfl)) heard) mayEnter) (by rw [liftsFinal]; kernel_rfl)) (by rw [makeCut]; kernel_rfl)) (by kernel_rfl)) (by kernel_rfl)) (by kernel_rfl)) (by kernel_rfl))
theorem noInstance : decide (Func.isInstance Try.prog Try.f7 Rows.fnLookupRangeOneRow.origin Rows.fnLookupRangeOneRow.targs) = true := by kernel_rfl
theorem named : Try.prog.funcNamed Rows.fnLookupRangeOneRow.func = some 7 := by kernel_rfl
theorem over : Rows.fnLookupRangeOneRow.holds Try.pinned (OpenSpec.ofChange Rows.fnLookupRangeOneSpec) :=
  OpenClaim.holds_of_wide 7 Try.f7 rfl rfl rfl rfl rfl rfl rfl ⟨rfl, rfl, rfl, rfl, rfl⟩ rfl rfl rfl rfl rfl named Try.func7 closed
    (of_decide_eq_true noInstance) noWrapper
    (fun os started H enc _ => lifted os started H enc)

/-- The statement. -/
theorem proved : Rows.FnLookupRangeOneSaid := over
#print axioms proved
end Go.Proofs.Ytdlmkgplekcogaa.FnLookupRangeOne
