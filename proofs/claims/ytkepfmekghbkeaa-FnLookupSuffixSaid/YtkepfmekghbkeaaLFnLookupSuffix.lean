/- The law FnLookupSuffix: a path does not depend on its beginning. Proved for every input, no condition: the law's Go function returns true, and each argument reads afterwards as it read before. -/
import Derived.Test.YtkepfmekghbkeaaSeat
import Derived.Test.YtkepfmekghbkeaaPath
import Derived.Test.YtkepfmekghbkeaaSame
import Derived.Test.YtkepfmekghbkeaaDraw5
import Derived.Test.YtkepfmekghbkeaaLnx
import Derived.WalkKit
import Derived.ProofKit
import Derived.OpenShut
import Derived.ShutString
import Derived.ChangeOld
import Derived.Below
namespace Go.Proofs.Ytkepfmekghbkeaa.FnLookupSuffix
open Go.ChangeShapes Go.WideShapes Go.ChangeAt Go.RowKit
open Go.ChangeMaps (open_string shut_string)
set_option linter.unusedVariables false
set_option maxHeartbeats 400000

theorem lpH_yes {xs : List Int} {id key : Int} (h : nodeOk xs id = true ∧ pos key = true) : lpath xs id key = path xs key id := lpath_yes h
theorem lpH_no {xs : List Int} {id key : Int} (h : ¬ (nodeOk xs id = true ∧ pos key = true)) : lpath xs id key = [] := lpath_no h
theorem same_drop {w : World} {b1 b2 g c A5c : Nat} {A5 : Option Addr} {vs : List Int} {j : Nat} (h : OwnI w b1 (some ⟨g, 0, none⟩) c vs) (h5 : OwnI w b2 A5 A5c (vs.drop j)) (hl : vs.length ≤ 64) :
    Calls Try.prog 13 #[.slice A5 (vs.length - j) A5c, .slice (some ⟨g, j, none⟩) (vs.length - j) (c - j)] w fun e w' => e = .returned (.bool true) ∧ Below w.heap.size w w' := by
  have hn : NumsAt .i64 w w.heap.size (some ⟨g, j, none⟩) (vs.drop j) := by
    intro k hk
    rw [List.length_drop] at hk
    obtain ⟨ad, x, e, hb, hx, hc⟩ := h.nums (j + k) (by omega)
    injection e with e
    subst e
    refine ⟨_, x, rfl, hb, by rw [List.getElem?_drop]; exact hx, ?_⟩
    rw [add_at] at hc ⊢
    simpa using hc
  have := same_self w.heap.size A5 (some ⟨g, j, none⟩) A5c (c - j) (vs.drop j) (by rw [List.length_drop]; unfold maxLen; omega) w h5.nums hn
  rwa [List.length_drop] at this
set_option maxHeartbeats 4000000 in
theorem walk (A : Option Addr) (c : Nat) (xs : List Int) (A9 : Option Addr) (c9 : Nat) (zs : List Int) (w : World) (w0 : Arg .u8 w A c xs) (w9 : Arg .u8 w A9 c9 zs) : Calls Try.prog 4 #[.slice A xs.length c, .slice A9 zs.length c9] w fun e w' => e = .returned (.bool true) ∧ Below w.heap.size w w' := by
  have HO := Lib.hid (drawPath_any A c xs w w0)
  obtain ⟨hl, hc, -, -⟩ := w0
  unfold maxLen at hc
  obtain ⟨hl9, hc9, -, -⟩ := w9
  unfold maxLen at hc9
  by_cases hbig : 1048576 < xs.length
  · go_enter Try.func4, Try.ntmps4
    go_wp2
    go_ret
    exact ⟨rfl, Below.refl _ _⟩
  have hsm : xs.length ≤ 1048576 := by omega
  by_cases hbig9 : 1048576 < zs.length
  · go_enter Try.func4, Try.ntmps4
    go_wp2
    go_ret
    exact ⟨rfl, Below.refl _ _⟩
  have hsm9 : zs.length ≤ 1048576 := by omega
  clear hbig9 hl9 hc9
  clear hbig hl hc
  go_enter Try.func4, Try.ntmps4
  go_wp2_with fail
  refine HO.out.mono ?_; rintro e w1 ⟨A1, c1, ys, id, key, rfl, ho, hy20, hyb, ⟨id0, id1⟩, ⟨key0, key1⟩, hB⟩
  clear HO
  have hmax : ys.length ≤ maxLen := by unfold maxLen; omega
  have H1 := Lib.hid (lpath_impl w1.heap.size A1 c1 ys id key hmax w1 (Nat.le_refl _) ho.nums)
  go_wp2_with fail
  refine H1.out.mono ?_; rintro e w2 ⟨A2, c2, rfl, ho2, hb2⟩
  replace ho := ho.below hb2 (Nat.le_refl _)
  replace ho2 := ho2.base hB.size
  replace hB := below_next hB hb2
  clear H1 hb2
  have H2 := Lib.hid (lpath_spec w2.heap.size A1 c1 ys id key hmax w2 (Nat.le_refl _) ho.nums)
  go_wp2_with fail
  refine H2.out.mono ?_; rintro e w3 ⟨A3, c3, rfl, ho3, hb3⟩
  replace ho := ho.below hb3 (Nat.le_refl _)
  replace ho2 := ho2.below hb3 (Nat.le_refl _)
  replace ho3 := ho3.base hB.size
  replace hB := below_next hB hb3
  clear H2 hb3
  have hvl := lpath_le ys id key
  have hvm : (lpath ys id key).length ≤ maxLen := by unfold maxLen; omega
  have HQ := fun (W : World) (h2 : OwnI W w.heap.size A2 c2 (lpath ys id key)) (h3 : OwnI W w.heap.size A3 c3 (lpath ys id key)) => Lib.hid (same_self W.heap.size A2 A3 c2 c3 _ hvm W h2.nums h3.nums)
  by_cases hv : nodeOk ys id = true ∧ pos key = true
  · have HV := Lib.hid (lpH_yes hv)
    generalize hvs : lpath ys id key = vs at HV HQ ho2 ho3 hvl hvm
    have HVS := Lib.hid hvs
    clear hvs
    go_wp2_with fail
    refine (HQ w3 ho2 ho3).out.mono ?_
    rintro e w4 ⟨rfl, hb4⟩
    replace ho := ho.below hb4 (Nat.le_refl _)
    replace ho2 := ho2.below hb4 (Nat.le_refl _)
    replace hB := below_next hB hb4
    clear ho3 HQ hb4
    obtain ⟨hn, hk⟩ := hv
    obtain ⟨hnv, hid⟩ := nodeOk_iff.1 hn
    have hvl1 : 1 ≤ vs.length := by rw [HV.out]; exact path_len hnv hk hid
    obtain ⟨j, hj⟩ : ∃ j, j = zs.length % vs.length := ⟨_, rfl⟩
    have hjl : j < vs.length := by rw [hj]; exact Nat.mod_lt _ (by omega)
    obtain ⟨x, hx⟩ : ∃ x, vs[j]? = some x := ⟨_, List.getElem?_eq_getElem hjl⟩
    have HD := Lib.hid (show lpath ys x key = vs.drop j from by
      have hxp : (path ys key id)[j]? = some x := by rw [← HV.out]; exact hx
      have hxm := (path_mem hnv hk hid x (List.mem_of_getElem? hxp)).1
      rw [lpath_yes ⟨nodeOk_iff.2 ⟨hnv, hxm⟩, hk⟩, path_drop hnv hk hid j x hxp, HV.out])
    have q1 : (zs.length : Int).tmod (vs.length : Int) = (j : Int) := by rw [hj]; exact IntWalk.up_tmod rfl rfl
    have q2 : (zs.length : Int) % (vs.length : Int) = (j : Int) := by rw [hj]; rfl
    have q3 : zs.length % vs.length = j := hj.symm
    have qz : ¬ vs.length = 0 := by omega
    obtain ⟨g, rfl⟩ := ho2.some_ (by omega)
    have d := own_at ho2 hx
    have H5 := Lib.hid (lpath_impl w4.heap.size A1 c1 ys x key hmax w4.drew (Nat.le_refl _) (NumsAt.drewN ho.nums 1))
    rw [HD.out] at H5
    have hcap := ho2.len.1
    have hcm := ho2.len.2
    unfold maxLen at hcm
    have HO2 := Lib.hid ho2
    have hdl := List.length_drop (l := vs) (i := j)
    have HDL := Lib.hid hdl
    have hvl64 := hvl
    have hlen : 0 < (vs.length : Int) := by omega
    clear hn hk hnv hid hx HVS HV hvm hvl ho ho2 hj hdl
    go_wp2_with fail
    go_region_with (first
      | (go_at_call 11; refine (H5.out).mono ?_; rintro e w5 ⟨A5, c5, rfl, ho5, hb5'⟩; have hb5 := below_undrew hb5'; clear hb5'
         have d5 := (hb5.cell (World.block_lt_of_cell? w4 _ d)).trans d
         have ho2 := HO2.out.below hb5 (Nat.le_refl _)
         have hB5 := below_next hB hb5
         have HQ := Lib.hid (same_drop ho2 ho5 (by omega))
         clear ho5 ho2 hb5)
      | (go_at_call 13; refine (HQ.out).mono ?_; rintro e w7 ⟨rfl, hb7⟩))
    all_goals
      go_wp2
      go_ret
      exact ⟨rfl, below_next hB5 hb7⟩
  · have HV := lpH_no hv
    rw [HV] at HQ ho2 ho3 ⊢
    clear HV hv hvl hvm
    go_wp2_with fail
    refine (HQ w3 ho2 ho3).out.mono ?_
    rintro e w4 ⟨rfl, hb4⟩
    have HB4 := below_next hB hb4
    go_wp2_with fail
    refine (HQ w4 (ho2.below hb4 (Nat.le_refl _)) (ho3.below hb4 (Nat.le_refl _))).out.mono ?_
    rintro e w5 ⟨rfl, hb5⟩
    go_wp2
    go_ret
    exact ⟨rfl, below_next HB4 hb5⟩

set_option maxRecDepth 100000 in
theorem lifted (os : Os) (started : os.Started) (H : Type) (enc : TypeId × Value → H) :
    ReturnsInHanded {} Try.checked os 4 .any (Rows.fnLookupSuffixSpec.pre6 enc Try.prog Try.f4 Rows.fnLookupSuffixRow.domain false) (Rows.fnLookupSuffixSpec.post enc Try.prog Try.f4 false true false false) := by
  refine returnsInHanded_of_change (C := Try.checked) own started (by kernel_rfl) Try.func4
    (ChangeSpec.witness6 (enc := enc) (C := Try.checked) false ⟨#[], #[.slice none 0 0, .slice none 0 0], []⟩ 8 (by kernel_rfl) (by kernel_rfl) (by kernel_rfl) (by kernel_rfl)) ?_
  intro W base args ds gs before hval0 hW hcnd _
  have hval : ∀ (j : Nat) t v, Try.f4.params[j]? = some t → args[j]? = some v → Value.okWide Try.prog W .any base t v := hval0
  have hW' := hW
  obtain ⟨p, q, hA0, hV, rfl, hfz, hnd⟩ := hW
  have hA : DataW.TrodAll enc Try.prog W 0 (fun _ => true) true Try.f4.params.toList args.toList ds p := hA0
  rw [Try.params4] at hA hval
  obtain ⟨v0, vs0, d0, ds0, p0, q0, hargs, rfl, rfl, h0, r0⟩ := trodAll_cons hA
  obtain ⟨v1, vs1, d1, ds1, p1, q1, rfl, rfl, rfl, h1, r1⟩ := trodAll_cons r0
  obtain ⟨rfl, rfl, rfl⟩ := trodAll_nil r1
  obtain rfl : args = #[v0, v1] := by cases args; simp_all
  obtain ⟨rfl, rfl⟩ := trodVars_none hV
  obtain ⟨A0, len0, c0, rfl⟩ := okWide_slice Try.underlying22 (hval 0 22 v0 rfl rfl)
  have k0 := h0
  have lt0 : ∀ x ∈ p0, x.block < W.heap.size := by obtain ⟨m, hm⟩ := k0; exact DataW.trod_lt m _ _ _ hm
  obtain ⟨xs0, rfl, w0⟩ : ∃ xs : List Int, xs.length = len0 ∧ Arg .u8 W A0 c0 xs := by
    obtain ⟨fuel, hf⟩ := h0
    rcases open_ints Try.underlying22 Try.underlying5 (by kernel_rfl) hf with ⟨hcs, _⟩ | ⟨x, l, c, zs, hcs, _, hl, hm, hz, _, hcell, hwz⟩
    · simp [Value.cells] at hcs
      obtain ⟨rfl, rfl, rfl⟩ := hcs
      exact Arg.none_
    · simp [Value.cells] at hcs
      obtain ⟨rfl, rfl, rfl⟩ := hcs
      exact Arg.row hl hm (by simpa using hz) hcell hwz
  obtain ⟨A1, len1, c1, rfl⟩ := okWide_slice Try.underlying22 (hval 1 22 v1 rfl rfl)
  have k1 := h1
  have lt1 : ∀ x ∈ p1, x.block < W.heap.size := by obtain ⟨m, hm⟩ := k1; exact DataW.trod_lt m _ _ _ hm
  obtain ⟨xs1, rfl, w1⟩ : ∃ xs : List Int, xs.length = len1 ∧ Arg .u8 W A1 c1 xs := by
    obtain ⟨fuel, hf⟩ := h1
    rcases open_ints Try.underlying22 Try.underlying5 (by kernel_rfl) hf with ⟨hcs, _⟩ | ⟨x, l, c, zs, hcs, _, hl, hm, hz, _, hcell, hwz⟩
    · simp [Value.cells] at hcs
      obtain ⟨rfl, rfl, rfl⟩ := hcs
      exact Arg.none_
    · simp [Value.cells] at hcs
      obtain ⟨rfl, rfl, rfl⟩ := hcs
      exact Arg.row hl hm (by simpa using hz) hcell hwz
  clear hA0 hval0
  refine (walk A0 c0 xs0 A1 c1 xs1 W w0 w1).mono fun e W' ⟨he, bel⟩ => ?_
  subst he
  exact ⟨_, rfl, _, _, _, [], _, [], hW', trodAll_mk1 (shut_bool Try.underlying4 _), (trodAll_cons_mk (Below.trod laidOut (by kernel_rfl) (of_decide_eq_true (by kernel_rfl)) k0 bel lt0) (trodAll_cons_mk (Below.trod laidOut (by kernel_rfl) (of_decide_eq_true (by kernel_rfl)) k1 bel lt1) trodAll_mk0)), rfl, bel.frame _, fun h => by cases h⟩

theorem nm : Try.f4.name = Rows.fnLookupSuffixRow.func := by kernel_rfl
theorem notMain : decide (Check.packageOf Rows.fnLookupSuffixRow.func = "main") = false := by kernel_rfl
theorem noWrapper : Func.isWrapper Try.prog Try.f4 Rows.fnLookupSuffixRow.wrapper Rows.fnLookupSuffixRow.mainSum := by
  unfold Func.isWrapper; rw [nm, if_neg (of_decide_eq_false notMain)]; exact ⟨rfl, rfl⟩
theorem closed : joinedFacts Try.prog 4 Try.f4 Rows.fnLookupSuffixSpec Rows.fnLookupSuffixRow = true := by
  unfold joinedFacts
  exact (andI (andI (andI (andI (andI (andI (andI (andI (andI (andI (andI (andI (andI (andI (andI (andI (andI (andI (andI (andI (andI (andI (andI (andI (andI (andI (andI (andI (andI (andI (andI (by kernel_rfl) laidOut) rowed) (by kernel_rfl)) (by kernel_rfl)) (by kernel_rfl)) (by kernel_rfl)) (by kernel_rfl)) (by kernel_rfl)) (by kernel_rfl)) (by kernel_rfl)) (by kernel_rfl)) (by kernel_rfl)) (by kernel_rfl)) (by kernel_rfl)) (by kernel_rfl)) (by kernel_rfl)) (by kernel_rfl)) (by kernel_rfl)) (by kernel_rfl)) (by kernel_rfl)) (by kernel_rfl)) (by rw [plain_keys]; kernel_rfl)) (by kernel_rfl)) heard) mayEnter) (by rw [liftsFinal]; kernel_rfl)) (by rw [makeCut]; kernel_rfl)) (by kernel_rfl)) (by kernel_rfl)) (by kernel_rfl)) (by kernel_rfl))
theorem noInstance : decide (Func.isInstance Try.prog Try.f4 Rows.fnLookupSuffixRow.origin Rows.fnLookupSuffixRow.targs) = true := by kernel_rfl
theorem named : Try.prog.funcNamed Rows.fnLookupSuffixRow.func = some 4 := by kernel_rfl
theorem over : Rows.fnLookupSuffixRow.holds Try.pinned (OpenSpec.ofChange Rows.fnLookupSuffixSpec) :=
  OpenClaim.holds_of_wide 4 Try.f4 rfl rfl rfl rfl rfl rfl rfl ⟨rfl, rfl, rfl, rfl, rfl⟩ rfl rfl rfl rfl rfl named Try.func4 closed
    (of_decide_eq_true noInstance) noWrapper
    (fun os started H enc _ => lifted os started H enc)

/-- The statement. -/
theorem proved : Rows.FnLookupSuffixSaid := over
#print axioms proved
end Go.Proofs.Ytkepfmekghbkeaa.FnLookupSuffix
