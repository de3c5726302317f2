/- The law FnFingersFirst: the first finger is the next node. Proved for every input, no condition: the law's Go function returns true, and each argument reads afterwards as it read before. -/
import Derived.Test.YtdlmkgplekcogaaSeat
import Derived.Test.YtdlmkgplekcogaaFing
import Derived.Test.YtdlmkgplekcogaaSame
import Derived.Test.YtdlmkgplekcogaaDraw5
import Derived.Test.YtdlmkgplekcogaaLnx
import Derived.WalkKit
import Derived.ProofKit
import Derived.OpenShut
import Derived.ShutString
import Derived.ChangeOld
import Derived.Below
namespace Go.Proofs.Ytdlmkgplekcogaa.FnFingersFirst
open Go.ChangeShapes Go.WideShapes Go.ChangeAt Go.RowKit
open Go.ChangeMaps (open_string shut_string)
set_option linter.unusedVariables false
set_option maxHeartbeats 400000

theorem first_btw {xs : List Int} (h : nval xs = true) {id x : Int} (hid : id ∈ xs) (hx : x ∈ xs) : btw id x (fing xs id 0) = false := by
  obtain ⟨f1, f2⟩ := nxt_near h (p2_mod id 0)
  have hf : fing xs id 0 = nxt xs ((id + (2 : Int) ^ 0) % 64) := rfl
  rw [← hf] at f1 f2
  have e1 := f2 _ hx
  have hi := node_pos h hid
  have hxp := node_pos h hx
  have hfp := node_pos h f1
  rw [Bool.eq_false_iff]
  intro hc
  rw [btw_iff hi hxp hfp] at hc
  have i1 := pos_iff.1 hi
  have i2 := pos_iff.1 hxp
  have i3 := pos_iff.1 hfp
  have e0 : (2 : Int) ^ 0 = 1 := rfl
  rw [e0] at e1
  unfold dst at e1
  omega
theorem first_self {xs : List Int} (h : nval xs = true) {id : Int} (hid : id ∈ xs) (e : fing xs id 0 = id) : xs.length = 1 := by
  obtain ⟨f1, f2⟩ := nxt_near h (p2_mod id 0)
  have hf : fing xs id 0 = nxt xs ((id + (2 : Int) ^ 0) % 64) := rfl
  rw [← hf, e] at f1 f2
  have hl := (nval_len h).1
  rcases Nat.lt_or_ge 1 xs.length with h1 | h1
  · have key : ∀ x ∈ xs, x = id := by
      intro x hx
      have e1 := f2 _ hx
      have i1 := pos_iff.1 (node_pos h hid)
      have i2 := pos_iff.1 (node_pos h hx)
      have e0 : (2 : Int) ^ 0 = 1 := rfl
      rw [e0] at e1
      unfold dst at e1
      omega
    have := asc_lt (nval_asc h) 0 1 (by omega) h1
    have k0 := key _ (List.getElem_mem (by omega : 0 < xs.length))
    have k1 := key _ (List.getElem_mem h1)
    omega
  · omega
set_option maxHeartbeats 4000000 in
theorem walk (A : Option Addr) (c : Nat) (xs : List Int) (w : World) (w0 : Arg .u8 w A c xs) : Calls Try.prog 8 #[.slice A xs.length c] w fun e w' => e = .returned (.bool true) ∧ Below w.heap.size w w' := by
  have HO := Lib.hid (drawFing_any A c xs w w0)
  obtain ⟨hl, hc, -, -⟩ := w0
  unfold maxLen at hc
  by_cases hbig : 1048576 < xs.length
  · go_enter Try.func8, Try.ntmps8
    go_wp2
    go_ret
    exact ⟨rfl, Below.refl _ _⟩
  have hsm : xs.length ≤ 1048576 := by omega
  clear hbig hl hc
  go_enter Try.func8, Try.ntmps8
  go_wp2_with fail
  refine HO.out.mono ?_; rintro e w1 ⟨A1, c1, ys, id, rfl, ho, hy20, hyb, id0, id1, hB⟩
  clear HO
  have hmax : ys.length ≤ maxLen := by unfold maxLen; omega
  have H1 := Lib.hid (fgs_impl w1.heap.size A1 c1 ys id hmax w1 (Nat.le_refl _) ho.nums)
  go_wp2_with fail
  refine H1.out.mono ?_; rintro e w2 ⟨A2, c2, rfl, ho2, hb2⟩
  replace ho := ho.below hb2 (Nat.le_refl _)
  replace ho2 := ho2.base hB.size
  replace hB := below_next hB hb2
  clear H1 hb2
  have H2 := Lib.hid (fgs_spec w2.heap.size A1 c1 ys id hmax w2 (Nat.le_refl _) ho.nums)
  go_wp2_with fail
  refine H2.out.mono ?_; rintro e w3 ⟨A3, c3, rfl, ho3, hb3⟩
  replace ho := ho.below hb3 (Nat.le_refl _)
  replace ho2 := ho2.below hb3 (Nat.le_refl _)
  replace ho3 := ho3.base hB.size
  replace hB := below_next hB hb3
  clear H2 hb3
  have hvl := fgs_le ys id
  have hvm : (fgs ys id).length ≤ maxLen := by unfold maxLen; omega
  have HQ := fun (W : World) (h2 : OwnI W w.heap.size A2 c2 (fgs ys id)) (h3 : OwnI W w.heap.size A3 c3 (fgs ys id)) => Lib.hid (same_self W.heap.size A2 A3 c2 c3 _ hvm W h2.nums h3.nums)
  by_cases hv : nodeOk ys id = true
  · have HV := Lib.hid (fgs_yes hv)
    generalize hvs : fgs ys id = vs at HV HQ ho2 ho3 hvl hvm
    have HVS := Lib.hid hvs
    clear hvs
    go_wp2_with fail
    refine (HQ w3 ho2 ho3).out.mono ?_
    rintro e w4 ⟨rfl, hb4⟩
    replace ho := ho.below hb4 (Nat.le_refl _)
    replace ho2 := ho2.below hb4 (Nat.le_refl _)
    replace hB := below_next hB hb4
    clear ho3 HQ hb4
    obtain ⟨hnv, hid⟩ := nodeOk_iff.1 hv
    have hip := node_pos hnv hid
    have hfp := node_pos hnv (fing_mem hnv id 0)
    have HB := fun (x : Int) (hx : x ∈ ys) => Lib.hid (first_btw hnv hid hx)
    have HE := Lib.hid (first_self hnv hid)
    have he : vs = fingTo ys id 6 := HV.out
    subst he
    clear hv hnv hid HVS HV hvm hvl
    rw [fingTo_len]
    obtain ⟨g, rfl⟩ := ho2.some_ (by rw [fingTo_len]; omega)
    have HO2 := Lib.hid ho2
    generalize hf0 : fing ys id 0 = f at HB HE hfp
    have HD := fun (W : World) (hh : OwnI W w.heap.size (some ⟨g, 0, none⟩) c2 (fingTo ys id 6)) => own_at hh ((fingTo_at ys id 6 0 (by omega)).trans (congrArg some hf0))
    clear hf0
    go_wp2_with fail
    go_loopw [7] (fun i wr => ∃ k : Nat, k ≤ ys.length ∧ i = .int .i64 k ∧ OwnI wr w.heap.size A1 c1 ys ∧ OwnI wr w.heap.size (some ⟨g, 0, none⟩) c2 (fingTo ys id 6) ∧ Below w.heap.size w wr) (fun i _ => ys.length - (intOf i).toNat)
    case atStart => exact ⟨0, Nat.zero_le _, rfl, ho, HO2.out, hB⟩
    case round =>
      clear ho ho2 hB HO2
      obtain ⟨k, hk, rfl, ho, ho2, hB⟩ := hrel
      have d := HD wr ho2
      by_cases hlt : k < ys.length
      · obtain ⟨g1, rfl⟩ := ho.some_ (by omega)
        have HM := Lib.hid (List.getElem_mem hlt)
        obtain ⟨y, hy⟩ : ∃ y, ys[k] = y := ⟨_, rfl⟩
        have hc := own_at ho ((List.getElem?_eq_getElem hlt).trans (congrArg some hy))
        rw [hy] at HM
        clear hy
        have hbt := HB y HM.out
        have HO := Lib.hid ho
        have HO2 := Lib.hid ho2
        clear ho ho2 HD
        by_cases hyi : y = id
        · subst hyi
          go_wp2_with fail
          go_quiet (fail)
          go_wp2
          go_roundw
          case rel => exact ⟨k + 1, by omega, by go_num, HO.out.drewN _, HO2.out.drewN _, below_next hB (below_draw ⟨_, rfl⟩)⟩
          case measure => simp [intOf]; omega
        · have hne : (y != id) = true := by simpa using hyi
          go_wp2_with fail
          go_region_with (go_at_call 25; refine (cb_impl _ _ _ _).mono ?_; rw [hbt.out]; rintro e w5 ⟨rfl, hb5'⟩; have hb5 := below_undrew hb5'; clear hb5')
          all_goals
            go_wp2
            go_roundw
            case rel => exact ⟨k + 1, by omega, by go_num, HO.out.below hb5 (Nat.le_refl _), HO2.out.below hb5 (Nat.le_refl _), below_next hB hb5⟩
            case measure => simp [intOf]; omega
      · clear HD HB
        by_cases hfi : f = id
        · have hl1 := HE.out hfi
          subst hfi
          rw [hl1]
          clear HE
          go_wp2
          go_ret
          exact ⟨rfl, hB⟩
        · have hne : (f != id) = true := by simpa using hfi
          go_wp2
          go_ret
          exact ⟨rfl, hB⟩
  · have HV := fgs_no hv
    rw [HV] at HQ ho2 ho3 ⊢
    clear HV hv hvl hvm
    go_wp2_with fail
    refine (HQ w3 ho2 ho3).out.mono ?_
    rintro e w4 ⟨rfl, hb4⟩
    have HB4 := below_next hB hb4
    go_wp2_with fail
    refine (HQ w4 (ho2.below hb4 (Nat.le_refl _)) (ho3.below hb4 (Nat.le_refl _))).out.mono ?_
    rintro e w5 ⟨rfl, hb5⟩
    go_wp2
    go_ret
    exact ⟨rfl, below_next HB4 hb5⟩

set_option maxRecDepth 100000 in
theorem lifted (os : Os) (started : os.Started) (H : Type) (enc : TypeId × Value → H) :
    ReturnsInHanded {} Try.checked os 8 .any (Rows.fnFingersFirstSpec.pre6 enc Try.prog Try.f8 Rows.fnFingersFirstRow.domain false) (Rows.fnFingersFirstSpec.post enc Try.prog Try.f8 false true false false) := by
  refine returnsInHanded_of_change (C := Try.checked) own started (by kernel_rfl) Try.func8
    (ChangeSpec.witness6 (enc := enc) (C := Try.checked) false ⟨#[], #[.slice none 0 0], []⟩ 8 (by kernel_rfl) (by kernel_rfl) (by kernel_rfl) (by kernel_rfl)) ?_
  intro W base args ds gs before hval0 hW hcnd _
  have hval : ∀ (j : Nat) t v, Try.f8.params[j]? = some t → args[j]? = some v → Value.okWide Try.prog W .any base t v := hval0
  have hW' := hW
  obtain ⟨p, q, hA0, hV, rfl, hfz, hnd⟩ := hW
  have hA : DataW.TrodAll enc Try.prog W 0 (fun _ => true) true Try.f8.params.toList args.toList ds p := hA0
  rw [Try.params8] at hA hval
  obtain ⟨v0, vs0, d0, ds0, p0, q0, hargs, rfl, rfl, h0, r0⟩ := trodAll_cons hA
  obtain ⟨rfl, rfl, rfl⟩ := trodAll_nil r0
  obtain rfl : args = #[v0] := by cases args; simp_all
  obtain ⟨rfl, rfl⟩ := trodVars_none hV
  obtain ⟨A0, len0, c0, rfl⟩ := okWide_slice Try.underlying30 (hval 0 30 v0 rfl rfl)
  have k0 := h0
  have lt0 : ∀ x ∈ p0, x.block < W.heap.size := by obtain ⟨m, hm⟩ := k0; exact DataW.trod_lt m _ _ _ hm
  obtain ⟨xs0, rfl, w0⟩ : ∃ xs : List Int, xs.length = len0 ∧ Arg .u8 W A0 c0 xs := by
    obtain ⟨fuel, hf⟩ := h0
    rcases open_ints Try.underlying30 Try.underlying5 (by kernel_rfl) hf with ⟨hcs, _⟩ | ⟨x, l, c, zs, hcs, _, hl, hm, hz, _, hcell, hwz⟩
    · simp [Value.cells] at hcs
      obtain ⟨rfl, rfl, rfl⟩ := hcs
      exact Arg.none_
    · simp [Value.cells] at hcs
      obtain ⟨rfl, rfl, rfl⟩ := hcs
      exact Arg.row hl hm (by simpa using hz) hcell hwz
  clear hA0 hval0
  refine (walk A0 c0 xs0 W w0).mono fun e W' ⟨he, bel⟩ => ?_
  subst he
  exact ⟨_, rfl, _, _, _, [], _, [], hW', trodAll_mk1 (shut_bool Try.underlying4 _), (trodAll_cons_mk (Below.trod laidOut (by kernel_rfl) (of_decide_eq_true (by kernel_rfl)) k0 bel lt0) trodAll_mk0), rfl, bel.frame _, fun h => by cases h⟩

theorem nm : Try.f8.name = Rows.fnFingersFirstRow.func := by kernel_rfl
theorem notMain : decide (Check.packageOf Rows.fnFingersFirstRow.func = "main") = false := by kernel_rfl
theorem noWrapper : Func.isWrapper Try.prog Try.f8 Rows.fnFingersFirstRow.wrapper Rows.fnFingersFirstRow.mainSum := by
  unfold Func.isWrapper; rw [nm, if_neg (of_decide_eq_false notMain)]; exact ⟨rfl, rfl⟩
theorem closed : joinedFacts Try.prog 8 Try.f8 Rows.fnFingersFirstSpec Rows.fnFingersFirstRow = true := by
  unfold joinedFacts
  exact (andI (andI (andI (andI (andI (andI (andI (andI (andI (andI (andI (andI (andI (andI (andI (andI (andI (andI (andI (andI (andI (andI (andI (andI (andI (andI (andI (andI (andI (andI (andI (by kernel_rfl) laidOut) rowed) (by kernel_rfl)) (by kernel_rfl)) (by kernel_rfl)) (by kernel_rfl)) (by kernel_rfl)) (by kernel_rfl)) (by kernel_rfl)) (by kernel_rfl)) (by kernel_rfl)) (by kernel_rfl)) (by kernel_rfl)) (by kernel_rfl)) (by kernel_rfl)) (by kernel_rfl)) (by kernel_rfl)) (by kernel_rfl)) (by kernel_rfl)) (by kernel_rfl)) (by kernel_rfl)) (by rw [plain_keys]; kernel_rfl)) (by kernel_rfl)) heard) mayEnter) (by rw [liftsFinal]; kernel_rfl)) (by rw [makeCut]; kernel_rfl)) (by kernel_rfl)) (by kernel_rfl)) (by kernel_rfl)) (by kernel_rfl))
theorem noInstance : decide (Func.isInstance Try.prog Try.f8 Rows.fnFingersFirstRow.origin Rows.fnFingersFirstRow.targs) = true := by kernel_rfl
theorem named : Try.prog.funcNamed Rows.fnFingersFirstRow.func = some 8 := by kernel_rfl
theorem over : Rows.fnFingersFirstRow.holds Try.pinned (OpenSpec.ofChange Rows.fnFingersFirstSpec) :=
  OpenClaim.holds_of_wide 8 Try.f8 rfl rfl rfl rfl rfl rfl rfl ⟨rfl, rfl, rfl, rfl, rfl⟩ rfl rfl rfl rfl rfl named Try.func8 closed
    (of_decide_eq_true noInstance) noWrapper
    (fun os started H enc _ => lifted os started H enc)

/-- The statement. -/
theorem proved : Rows.FnFingersFirstSaid := over
#print axioms proved
end Go.Proofs.Ytdlmkgplekcogaa.FnFingersFirst
