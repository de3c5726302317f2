/- The law FnLookupNextFinger: a node asks one of its fingers, and goes beyond the key to its owner alone. Proved for every input, no condition: the law's Go function returns true, and each argument reads afterwards as it read before. -/
import Derived.Test.YtkepfmekghbkeaaSeat
import Derived.Test.YtkepfmekghbkeaaLnx
import Derived.Test.YtkepfmekghbkeaaInts
import Derived.Test.YtkepfmekghbkeaaDraw5
import Derived.Test.YtkepfmekghbkeaaSame
import Derived.WalkKit
import Derived.ProofKit
import Derived.OpenShut
import Derived.ShutString
import Derived.ChangeOld
import Derived.Below
namespace Go.Proofs.Ytkepfmekghbkeaa.FnLookupNextFinger
open Go.ChangeShapes Go.WideShapes Go.ChangeAt Go.RowKit
open Go.ChangeMaps (open_string shut_string)
set_option linter.unusedVariables false
set_option maxHeartbeats 400000

theorem lnx_finger {xs : List Int} (h : nval xs = true) (id key : Int) : ∃ j, j < 6 ∧ lnx xs id key = fing xs id j := by
  unfold lnx
  split
  · exact ⟨0, by omega, rfl⟩
  · rcases pick_form xs id key 5 with ⟨j, h1, h2, h3, _⟩ | ⟨h1, _⟩
    · exact ⟨j, by omega, h3⟩
    · exact ⟨0, by omega, h1⟩
theorem holds_owner {xs : List Int} (h : nval xs = true) {id key : Int} (hid : id ∈ xs) (hk : pos key = true) (hne : id ≠ key) (hh : rhld id (fing xs id 0) key = true) : fing xs id 0 = nxt xs key := by
  obtain ⟨o1, o2⟩ := nxt_near h hk
  obtain ⟨f1, f2⟩ := nxt_near h (p2_mod id 0)
  have hf : fing xs id 0 = nxt xs ((id + (2 : Int) ^ 0) % 64) := rfl
  rw [← hf] at f1 f2
  have hi := pos_iff.1 (node_pos h hid)
  have hkk := pos_iff.1 hk
  have hfp := pos_iff.1 (node_pos h f1)
  have hop := pos_iff.1 (node_pos h o1)
  have e1 := o2 _ f1
  have e2 := f2 _ o1
  have e3 := f2 _ hid
  generalize fing xs id 0 = f at *
  generalize nxt xs key = o at *
  unfold rhld at hh
  simp only [Bool.or_eq_true, beq_iff_eq, rbtw_iff] at hh
  have e0 : (2 : Int) ^ 0 = 1 := rfl
  rw [e0] at e2 e3
  unfold dst at e1 e2 e3
  rcases hh with hh | hh | hh
  · subst hh; omega
  · omega
  · subst hh; omega
theorem lnx_beyond {xs : List Int} (h : nval xs = true) {id key : Int} (hid : id ∈ xs) (hk : pos key = true) (hne : id ≠ key) : btw id key (lnx xs id key) = false ∨ lnx xs id key = nxt xs key := by
  have hi := node_pos h hid
  have hi' := pos_iff.1 hi
  have hkk := pos_iff.1 hk
  cases hh : rhld id (fing xs id 0) key
  · left
    rw [lnx_later hh]
    rcases pick_form xs id key 5 with ⟨j, h1, h2, h3, h4, _⟩ | ⟨h1, _⟩
    · rw [h3]
      have hm := node_pos h (fing_mem h id j)
      have hm' := pos_iff.1 hm
      rw [rbtw_iff] at h4
      rw [Bool.eq_false_iff]
      intro hc
      rw [btw_iff hi hk hm] at hc
      generalize fing xs id j = f at *
      omega
    · rw [h1]
      have hm := node_pos h (fing_mem h id 0)
      have hm' := pos_iff.1 hm
      rw [Bool.eq_false_iff]
      intro hc
      rw [btw_all hi hk hm] at hc
      unfold rhld at hh
      rw [hc] at hh
      simp at hh
  · right
    rw [lnx_first hh]
    exact holds_owner h hid hk hne hh
set_option maxHeartbeats 4000000 in
theorem walk (A : Option Addr) (c : Nat) (xs : List Int) (w : World) (w0 : Arg .u8 w A c xs) : Calls Try.prog 6 #[.slice A xs.length c] w fun e w' => e = .returned (.bool true) ∧ Below w.heap.size w w' := by
  have HO := Lib.hid (drawLnx_any A c xs w w0)
  obtain ⟨hl, hc, -, -⟩ := w0
  unfold maxLen at hc
  by_cases hbig : 1048576 < xs.length
  · go_enter Try.func6, Try.ntmps6
    go_wp2
    go_ret
    exact ⟨rfl, Below.refl _ _⟩
  have hsm : xs.length ≤ 1048576 := by omega
  clear hbig hl hc
  go_enter Try.func6, Try.ntmps6
  go_wp2_with fail
  refine HO.out.mono ?_; rintro e w1 ⟨A1, c1, ys, id, key, rfl, ho, hy20, hyb, ⟨id0, id1⟩, ⟨key0, key1⟩, hB⟩
  clear HO
  have hmax : ys.length ≤ maxLen := by unfold maxLen; omega
  have H1 := Lib.hid (ln_impl w1.heap.size A1 c1 ys id key hmax w1 (Nat.le_refl _) ho.nums)
  by_cases hv : nodeOk ys id = true ∧ pos key = true
  · obtain ⟨hn, hk⟩ := hv
    obtain ⟨hnv, hid⟩ := nodeOk_iff.1 hn
    have HL := Lib.hid (lnext_yes hn hk)
    obtain ⟨j, hj6, hj⟩ := lnx_finger hnv id key
    have hq0 : 0 ≤ lnx ys id key := by rw [hj]; exact (pos_iff.1 (node_pos hnv (fing_mem hnv id j))).1
    have HF := Lib.hid (show has (fgs ys id) (lnx ys id key) = true from by rw [has_iff, fgs_yes hn, hj]; exact List.mem_of_getElem? (fingTo_at ys id 6 j hj6))
    have HBy := fun hne => Lib.hid (lnx_beyond hnv hid hk (key := key) hne)
    have HNN := Lib.hid (nnext_yes hnv hk)
    clear hn hk hnv hid hj
    go_wp2_with fail
    refine H1.out.mono ?_; rw [HL.out]; rintro e w2 ⟨rfl, hb2⟩
    replace ho := ho.below hb2 (Nat.le_refl _)
    replace hB := below_next hB hb2
    have H2 := Lib.hid (ln_spec w2.heap.size A1 c1 ys id key hmax w2 (Nat.le_refl _) ho.nums)
    generalize lnx ys id key = q at HL hq0 HF HBy H1
    clear hb2 H1
    go_wp2_with fail
    refine H2.out.mono ?_; rw [HL.out]; rintro e w3 ⟨rfl, hb3⟩
    replace ho := ho.below hb3 (Nat.le_refl _)
    replace hB := below_next hB hb3
    have H3 := Lib.hid (fgs_impl w3.heap.size A1 c1 ys id hmax w3 (Nat.le_refl _) ho.nums)
    have hfl := fgs_le ys id
    generalize fgs ys id = fs at HF H3 hfl
    have hfm : fs.length ≤ maxLen := by unfold maxLen; omega
    clear hb3 H2 HL
    go_wp2_with fail
    refine H3.out.mono ?_; rintro e w4 ⟨A4, c4, rfl, ho4, hb4⟩
    replace ho := ho.below hb4 (Nat.le_refl _)
    replace hB := below_next hB hb4
    have H4 := Lib.hid (hasInt_any w4.heap.size A4 c4 fs q hfm w4 ho4.nums)
    clear hb4 H3
    by_cases hik : id = key
    · subst hik
      go_wp2_with (go_at_call 14; refine (H4.out).mono ?_; rw [HF.out]; rintro e w' ⟨rfl, rfl⟩)
      go_ret
      exact ⟨rfl, hB⟩
    · have hik' : (id == key) = false := by simpa using hik
      have HY := HBy hik
      clear HBy hik
      cases hbt : btw id key q
      · go_wp2_with (first
          | (go_at_call 14; refine (H4.out).mono ?_; rw [HF.out]; rintro e w' ⟨rfl, rfl⟩)
          | (go_at_call 19; refine (cb_impl _ _ _ _).mono ?_; rw [hbt]; rintro e w5 ⟨rfl, hb5⟩))
        go_ret
        exact ⟨rfl, below_next hB hb5⟩
      · have HQ := Lib.hid (show nnext ys key = q from by
          rcases HY.out with h | h
          · rw [hbt] at h; cases h
          · rw [HNN.out, h])
        clear HY HNN
        go_wp2_with (first
          | (go_at_call 14; refine (H4.out).mono ?_; rw [HF.out]; rintro e w' ⟨rfl, rfl⟩)
          | (go_at_call 19; refine (cb_impl _ _ _ _).mono ?_; rw [hbt]; rintro e w5 ⟨rfl, hb5⟩
             have ho5 := ho.below hb5 (Nat.le_refl _)
             have H6 := Lib.hid (nnext_impl w5.heap.size A1 c1 ys key hmax w5 ho5.nums)
             have hB5 := below_next hB hb5
             clear ho5 hb5)
          | (go_at_call 20; refine (H6.out).mono ?_; rw [HQ.out]; rintro e w' ⟨rfl, rfl⟩))
        go_ret
        exact ⟨rfl, hB5⟩
  · have HL := Lib.hid (lnext_no hv)
    clear hv
    go_wp2_with fail
    refine H1.out.mono ?_; rw [HL.out]; rintro e w2 ⟨rfl, hb2⟩
    replace ho := ho.below hb2 (Nat.le_refl _)
    replace hB := below_next hB hb2
    have H2 := Lib.hid (ln_spec w2.heap.size A1 c1 ys id key hmax w2 (Nat.le_refl _) ho.nums)
    clear hb2 H1
    go_wp2_with fail
    refine H2.out.mono ?_; rw [HL.out]; rintro e w3 ⟨rfl, hb3⟩
    go_wp2
    go_ret
    exact ⟨rfl, below_next hB hb3⟩

set_option maxRecDepth 100000 in
theorem lifted (os : Os) (started : os.Started) (H : Type) (enc : TypeId × Value → H) :
    ReturnsInHanded {} Try.checked os 6 .any (Rows.fnLookupNextFingerSpec.pre6 enc Try.prog Try.f6 Rows.fnLookupNextFingerRow.domain false) (Rows.fnLookupNextFingerSpec.post enc Try.prog Try.f6 false true false false) := by
  refine returnsInHanded_of_change (C := Try.checked) own started (by kernel_rfl) Try.func6
    (ChangeSpec.witness6 (enc := enc) (C := Try.checked) false ⟨#[], #[.slice none 0 0], []⟩ 8 (by kernel_rfl) (by kernel_rfl) (by kernel_rfl) (by kernel_rfl)) ?_
  intro W base args ds gs before hval0 hW hcnd _
  have hval : ∀ (j : Nat) t v, Try.f6.params[j]? = some t → args[j]? = some v → Value.okWide Try.prog W .any base t v := hval0
  have hW' := hW
  obtain ⟨p, q, hA0, hV, rfl, hfz, hnd⟩ := hW
  have hA : DataW.TrodAll enc Try.prog W 0 (fun _ => true) true Try.f6.params.toList args.toList ds p := hA0
  rw [Try.params6] at hA hval
  obtain ⟨v0, vs0, d0, ds0, p0, q0, hargs, rfl, rfl, h0, r0⟩ := trodAll_cons hA
  obtain ⟨rfl, rfl, rfl⟩ := trodAll_nil r0
  obtain rfl : args = #[v0] := by cases args; simp_all
  obtain ⟨rfl, rfl⟩ := trodVars_none hV
  obtain ⟨A0, len0, c0, rfl⟩ := okWide_slice Try.underlying22 (hval 0 22 v0 rfl rfl)
  have k0 := h0
  have lt0 : ∀ x ∈ p0, x.block < W.heap.size := by obtain ⟨m, hm⟩ := k0; exact DataW.trod_lt m _ _ _ hm
  obtain ⟨xs0, rfl, w0⟩ : ∃ xs : List Int, xs.length = len0 ∧ Arg .u8 W A0 c0 xs := by
    obtain ⟨fuel, hf⟩ := h0
    rcases open_ints Try.underlying22 Try.underlying5 (by kernel_rfl) hf with ⟨hcs, _⟩ | ⟨x, l, c, zs, hcs, _, hl, hm, hz, _, hcell, hwz⟩
    · simp [Value.cells] at hcs
      obtain ⟨rfl, rfl, rfl⟩ := hcs
      exact Arg.none_
    · simp [Value.cells] at hcs
      obtain ⟨rfl, rfl, rfl⟩ := hcs
      exact Arg.row hl hm (by simpa using hz) hcell hwz
  clear hA0 hval0
  refine (walk A0 c0 xs0 W w0).mono fun e W' ⟨he, bel⟩ => ?_
  subst he
  exact ⟨_, rfl, _, _, _, [], _, [], hW', trodAll_mk1 (shut_bool Try.underlying4 _), (trodAll_cons_mk (Below.trod laidOut (by kernel_rfl) (of_decide_eq_true (by kernel_rfl)) k0 bel lt0) trodAll_mk0), rfl, bel.frame _, fun h => by cases h⟩

theorem nm : Try.f6.name = Rows.fnLookupNextFingerRow.func := by kernel_rfl
theorem notMain : decide (Check.packageOf Rows.fnLookupNextFingerRow.func = "main") = false := by kernel_rfl
theorem noWrapper : Func.isWrapper Try.prog Try.f6 Rows.fnLookupNextFingerRow.wrapper Rows.fnLookupNextFingerRow.mainSum := by
  unfold Func.isWrapper; rw [nm, if_neg (of_decide_eq_false notMain)]; exact ⟨rfl, rfl⟩
theorem closed : joinedFacts Try.prog 6 Try.f6 Rows.fnLookupNextFingerSpec Rows.fnLookupNextFingerRow = true := by
  unfold joinedFacts
  exact (andI (andI (andI (andI (andI (andI (andI (andI (andI (andI (andI (andI (andI (andI (andI (andI (andI (andI (andI (andI (andI (andI (andI (andI (andI (andI (andI (andI (andI (andI (andI (by kernel_rfl) laidOut) rowed) (by kernel_rfl)) (by kernel_rfl)) (by kernel_rfl)) (by kernel_rfl)) (by kernel_rfl)) (by kernel_rfl)) (by kernel_rfl)) (by kernel_rfl)) (by kernel_rfl)) (by kernel_rfl)) (by kernel_rfl)) (by kernel_rfl)) (by kernel_rfl)) (by kernel_rfl)) (by kernel_rfl)) (by kernel_rfl)) (by kernel_rfl)) (by kernel_rfl)) (by kernel_rfl)) (by rw [plain_keys]; kernel_rfl)) (by kernel_rfl)) heard) mayEnter) (by rw [liftsFinal]; kernel_rfl)) (by rw [makeCut]; kernel_rfl)) (by kernel_rfl)) (by kernel_rfl)) (by kernel_rfl)) (by kernel_rfl))
theorem noInstance : decide (Func.isInstance Try.prog Try.f6 Rows.fnLookupNextFingerRow.origin Rows.fnLookupNextFingerRow.targs) = true := by kernel_rfl
theorem named : Try.prog.funcNamed Rows.fnLookupNextFingerRow.func = some 6 := by kernel_rfl
theorem over : Rows.fnLookupNextFingerRow.holds Try.pinned (OpenSpec.ofChange Rows.fnLookupNextFingerSpec) :=
  OpenClaim.holds_of_wide 6 Try.f6 rfl rfl rfl rfl rfl rfl rfl ⟨rfl, rfl, rfl, rfl, rfl⟩ rfl rfl rfl rfl rfl named Try.func6 closed
    (of_decide_eq_true noInstance) noWrapper
    (fun os started H enc _ => lifted os started H enc)

/-- The statement. -/
theorem proved : Rows.FnLookupNextFingerSaid := over
#print axioms proved
end Go.Proofs.Ytkepfmekghbkeaa.FnLookupNextFinger
