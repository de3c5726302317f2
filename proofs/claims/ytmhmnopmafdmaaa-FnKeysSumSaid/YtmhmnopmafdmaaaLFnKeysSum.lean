/- The law FnKeysSum: all keys are held. Proved for every input, no condition: the law's Go function returns true, and each argument reads afterwards as it read before. -/
import Derived.Test.YtmhmnopmafdmaaaSeat
import Derived.Test.YtmhmnopmafdmaaaDrawT
import Derived.Test.YtmhmnopmafdmaaaKeys
import Derived.WalkKit
import Derived.ProofKit
import Derived.OpenShut
import Derived.ShutString
import Derived.ChangeOld
import Derived.Below
namespace Go.Proofs.Ytmhmnopmafdmaaa.FnKeysSum
open Go.ChangeShapes Go.WideShapes Go.ChangeAt Go.RowKit
open Go.ChangeMaps (open_string shut_string)
set_option linter.unusedVariables false
set_option maxHeartbeats 400000

theorem lk_all {xs : List Tri} (h : lval xs = true) {p : Nat} (hp : p < 64) : lkVal xs (p : Int) = (cnt (own1 xs) (p : Int) 64 : Int) := by
  unfold lkVal; rw [if_pos h, if_pos (pos_iff.2 ⟨by omega, by omega⟩)]
theorem keys_sum {xs : List Tri} (h : lval xs = true) : sumTo (fun p => cnt (own1 xs) (p : Int) 64) 64 = 64 := by
  refine count_all (own1 xs) 64 64 fun k _ => ?_
  have := (lval_iff.1 h).2.1 _ (lof_mem (lval_len h).1 (k : Int))
  have h2 := pos_iff.1 this.2.1
  exact ⟨h2.1, by unfold own1; omega⟩
set_option maxHeartbeats 4000000 in
theorem walk (A : Option Addr) (c : Nat) (xs : List Int) (w : World) (w0 : Arg .u8 w A c xs) : Calls Try.prog 8 #[.slice A xs.length c] w fun e w' => e = .returned (.bool true) ∧ Below w.heap.size w w' := by
  have HO := Lib.hid (drawKeys_any A c xs w w0)
  obtain ⟨hl, hc, -, -⟩ := w0
  unfold maxLen at hc
  by_cases hbig : 1048576 < xs.length
  · go_enter Try.func8, Try.ntmps8
    go_wp2
    go_ret
    exact ⟨rfl, Below.refl _ _⟩
  have hsm : xs.length ≤ 1048576 := by omega
  clear hbig hl hc
  go_enter Try.func8, Try.ntmps8
  go_wp2_with fail
  refine HO.out.mono ?_; rintro e w1 ⟨A1, c1, ys, owner, rfl, ho, hy12, -, hB⟩
  clear HO
  obtain ⟨hlc, hcm⟩ := ho.len
  have HI := fun (o : Int) (W : World) (h : OwnT W w.heap.size A1 c1 ys) => Lib.hid (lk_impl W.heap.size A1 c1 ys o hlc hcm W (Nat.le_refl _) h.tris)
  have HS := fun (W : World) (h : OwnT W w.heap.size A1 c1 ys) => Lib.hid (lk_spec W.heap.size A1 c1 ys owner hlc hcm W (Nat.le_refl _) h.tris)
  by_cases hneg : lkVal ys owner < 0
  · have h1 := HI owner w1 ho
    generalize lkVal ys owner = v at h1 HS hneg
    go_wp2_with fail
    refine h1.out.mono ?_; rintro e w2 ⟨rfl, hb2⟩
    have h2 := HS w2 (ho.below hb2 (Nat.le_refl _))
    replace hB := below_next hB hb2
    clear h1 HI HS ho hb2
    go_wp2_with fail
    refine h2.out.mono ?_; rintro e w3 ⟨rfl, hb3⟩
    go_wp2
    go_ret
    exact ⟨rfl, below_next hB hb3⟩
  · have hv : lval ys = true := by
      by_cases hv : lval ys = true
      · exact hv
      · exact absurd (by unfold lkVal; rw [if_neg hv]; omega) hneg
    have HSUM := Lib.hid (keys_sum hv)
    have HALL := fun (p : Nat) (hp : p < 64) => Lib.hid (lk_all hv hp)
    have HG := Lib.hid (sumTo_le (fun p => cnt (own1 ys) (p : Int) 64) 64 (fun p => cnt_le _ _ _))
    have HGE := fun (p : Nat) => Lib.hid (cnt_le (own1 ys) (p : Int) 64)
    clear hv
    have h1 := HI owner w1 ho
    generalize lkVal ys owner = v at h1 HS hneg
    go_wp2_with fail
    refine h1.out.mono ?_; rintro e w2 ⟨rfl, hb2⟩
    replace ho := ho.below hb2 (Nat.le_refl _)
    have h2 := HS w2 ho
    replace hB := below_next hB hb2
    clear h1 HS hb2
    go_wp2_with fail
    refine h2.out.mono ?_; rintro e w3 ⟨rfl, hb3⟩
    replace ho := ho.below hb3 (Nat.le_refl _)
    replace hB := below_next hB hb3
    have HO1 := Lib.hid ho
    clear ho hb3 h2
    go_wp2_with fail
    go_loopw [7, 8] (fun s i wr => ∃ k : Nat, k ≤ 64 ∧ i = .int .i64 k ∧ s = .int .i64 (sumTo (fun p => cnt (own1 ys) (p : Int) 64) k : Int) ∧ OwnT wr w.heap.size A1 c1 ys ∧ Below w.heap.size w wr) (fun _ i _ => 64 - (intOf i).toNat)
    case atStart => exact ⟨0, by omega, rfl, rfl, HO1.out, hB⟩
    case round =>
      clear HO1 hB
      obtain ⟨k, hk, rfl, rfl, ho, hB⟩ := hrel
      have hle := HG.out k
      have HST := Lib.hid (show sumTo (fun p => cnt (own1 ys) (p : Int) 64) (k + 1) = sumTo (fun p => cnt (own1 ys) (p : Int) 64) k + cnt (own1 ys) (k : Int) 64 from rfl)
      have HK := Lib.hid (show k = 64 → sumTo (fun p => cnt (own1 ys) (p : Int) 64) k = 64 from fun e => by rw [e]; exact HSUM.out)
      generalize sumTo (fun p => cnt (own1 ys) (p : Int) 64) k = m at hle HST HK ⊢
      by_cases hlt : k < 64
      · have h1 := HI (k : Int) wr ho
        have he := (HALL k hlt).out
        rw [he] at h1
        have hc := (HGE k).out
        clear he HI HALL HGE HG
        generalize cnt (own1 ys) (k : Int) 64 = q at h1 hc HST
        have HO := Lib.hid ho
        clear ho
        go_wp2_with fail
        refine h1.out.mono ?_; rintro e w4 ⟨rfl, hb4⟩
        clear h1
        go_wp2
        go_roundw
        case rel => exact ⟨k + 1, by omega, by go_num, by rw [HST.out]; go_num, HO.out.below hb4 (Nat.le_refl _), below_next (w1 := wr) hB hb4⟩
        case measure => simp [intOf]; omega
      · have : k = 64 := by omega
        have hm := HK.out this
        subst hm
        clear HI HALL HGE HG
        go_wp2
        go_ret
        exact ⟨rfl, hB⟩

set_option maxRecDepth 100000 in
theorem lifted (os : Os) (started : os.Started) (H : Type) (enc : TypeId × Value → H) :
    ReturnsInHanded {} Try.checked os 8 .any (Rows.fnKeysSumSpec.pre6 enc Try.prog Try.f8 Rows.fnKeysSumRow.domain false) (Rows.fnKeysSumSpec.post enc Try.prog Try.f8 false true false false) := by
  refine returnsInHanded_of_change (C := Try.checked) own started (by kernel_rfl) Try.func8
    (ChangeSpec.witness6 (enc := enc) (C := Try.checked) false ⟨#[], #[.slice none 0 0], []⟩ 8 (by kernel_rfl) (by kernel_rfl) (by kernel_rfl) (by kernel_rfl)) ?_
  intro W base args ds gs before hval0 hW hcnd _
  have hval : ∀ (j : Nat) t v, Try.f8.params[j]? = some t → args[j]? = some v → Value.okWide Try.prog W .any base t v := hval0
  have hW' := hW
  obtain ⟨p, q, hA0, hV, rfl, hfz, hnd⟩ := hW
  have hA : DataW.TrodAll enc Try.prog W 0 (fun _ => true) true Try.f8.params.toList args.toList ds p := hA0
  rw [Try.params8] at hA hval
  obtain ⟨v0, vs0, d0, ds0, p0, q0, hargs, rfl, rfl, h0, r0⟩ := trodAll_cons hA
  obtain ⟨rfl, rfl, rfl⟩ := trodAll_nil r0
  obtain rfl : args = #[v0] := by cases args; simp_all
  obtain ⟨rfl, rfl⟩ := trodVars_none hV
  obtain ⟨A0, len0, c0, rfl⟩ := okWide_slice Try.underlying36 (hval 0 36 v0 rfl rfl)
  have k0 := h0
  have lt0 : ∀ x ∈ p0, x.block < W.heap.size := by obtain ⟨m, hm⟩ := k0; exact DataW.trod_lt m _ _ _ hm
  obtain ⟨xs0, rfl, w0⟩ : ∃ xs : List Int, xs.length = len0 ∧ Arg .u8 W A0 c0 xs := by
    obtain ⟨fuel, hf⟩ := h0
    rcases open_ints Try.underlying36 Try.underlying5 (by kernel_rfl) hf with ⟨hcs, _⟩ | ⟨x, l, c, zs, hcs, _, hl, hm, hz, _, hcell, hwz⟩
    · simp [Value.cells] at hcs
      obtain ⟨rfl, rfl, rfl⟩ := hcs
      exact Arg.none_
    · simp [Value.cells] at hcs
      obtain ⟨rfl, rfl, rfl⟩ := hcs
      exact Arg.row hl hm (by simpa using hz) hcell hwz
  clear hA0 hval0
  refine (walk A0 c0 xs0 W w0).mono fun e W' ⟨he, bel⟩ => ?_
  subst he
  exact ⟨_, rfl, _, _, _, [], _, [], hW', trodAll_mk1 (shut_bool Try.underlying4 _), (trodAll_cons_mk (Below.trod laidOut (by kernel_rfl) (of_decide_eq_true (by kernel_rfl)) k0 bel lt0) trodAll_mk0), rfl, bel.frame _, fun h => by cases h⟩

theorem nm : Try.f8.name = Rows.fnKeysSumRow.func := by kernel_rfl
theorem notMain : decide (Check.packageOf Rows.fnKeysSumRow.func = "main") = false := by kernel_rfl
theorem noWrapper : Func.isWrapper Try.prog Try.f8 Rows.fnKeysSumRow.wrapper Rows.fnKeysSumRow.mainSum := by
  unfold Func.isWrapper; rw [nm, if_neg (of_decide_eq_false notMain)]; exact ⟨rfl, rfl⟩
theorem closed : joinedFacts Try.prog 8 Try.f8 Rows.fnKeysSumSpec Rows.fnKeysSumRow = true := by
  unfold joinedFacts
  exact (andI (andI (andI (andI (andI (andI (andI (andI (andI (andI (andI (andI (andI (andI (andI (andI (andI (andI (andI (andI (andI (andI (andI (andI (andI (andI (andI (andI (andI (andI (andI (by kernel_rfl) laidOut) rowed) (by kernel_rfl)) (by kernel_rfl)) (by kernel_rfl)) (by kernel_rfl)) (by kernel_rfl)) (by kernel_rfl)) (by kernel_rfl)) (by kernel_rfl)) (by kernel_rfl)) (by kernel_rfl)) (by kernel_rfl)) (by kernel_rfl)) (by kernel_rfl)) (by kernel_rfl)) (by kernel_rfl)) (by kernel_rfl)) (by kernel_rfl)) (by kernel_rfl)) (by kernel_rfl)) (by rw [plain_keys]; kernel_rfl)) (by kernel_rfl)) heard) mayEnter) (by rw [liftsFinal]; kernel_rfl)) (by rw [makeCut]; kernel_rfl)) (by kernel_rfl)) (by kernel_rfl)) (by kernel_rfl)) (by kernel_rfl))
theorem noInstance : decide (Func.isInstance Try.prog Try.f8 Rows.fnKeysSumRow.origin Rows.fnKeysSumRow.targs) = true := by kernel_rfl
theorem named : Try.prog.funcNamed Rows.fnKeysSumRow.func = some 8 := by kernel_rfl
theorem over : Rows.fnKeysSumRow.holds Try.pinned (OpenSpec.ofChange Rows.fnKeysSumSpec) :=
  OpenClaim.holds_of_wide 8 Try.f8 rfl rfl rfl rfl rfl rfl rfl ⟨rfl, rfl, rfl, rfl, rfl⟩ rfl rfl rfl rfl rfl named Try.func8 closed
    (of_decide_eq_true noInstance) noWrapper
    (fun os started H enc _ => lifted os started H enc)

/-- The statement. -/
theorem proved : Rows.FnKeysSumSaid := over
#print axioms proved
end Go.Proofs.Ytmhmnopmafdmaaa.FnKeysSum
