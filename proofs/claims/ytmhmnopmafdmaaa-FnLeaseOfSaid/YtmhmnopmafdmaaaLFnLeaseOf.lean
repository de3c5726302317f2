/- The law FnLeaseOf: a key is held up to the end of its lease. Proved for every input, no condition: the law's Go function returns true, and each argument reads afterwards as it read before. -/
import Derived.Test.YtmhmnopmafdmaaaSeat
import Derived.Test.YtmhmnopmafdmaaaDrawT
import Derived.Test.YtmhmnopmafdmaaaLof
import Derived.WalkKit
import Derived.ProofKit
import Derived.OpenShut
import Derived.ShutString
import Derived.ChangeOld
import Derived.Below
namespace Go.Proofs.Ytmhmnopmafdmaaa.FnLeaseOf
open Go.ChangeShapes Go.WideShapes Go.ChangeAt Go.RowKit
open Go.ChangeMaps (open_string shut_string)
set_option linter.unusedVariables false
set_option maxHeartbeats 400000

theorem lo_up {xs : List Tri} {key k : Int} (h : loOk xs key = true) (h1 : key ≤ k) (h2 : k ≤ (loVal xs key).1) : loOk xs k = true ∧ loVal xs k = loVal xs key := by
  have h3 : loVal xs key = lof xs key := by unfold loVal; rw [if_pos h]
  have h0 := h
  unfold loOk at h
  simp only [Bool.and_eq_true] at h
  obtain ⟨hv, hk⟩ := h
  rw [h3] at h2
  have hl := (lval_len hv).1
  have hm := (lval_iff.1 hv).2.1 _ (lof_mem hl key)
  have hm1 := pos_iff.1 hm.1
  have hk1 := pos_iff.1 hk
  have hkk : loOk xs k = true := by unfold loOk; rw [hv, pos_iff.2 ⟨by omega, by omega⟩]; rfl
  refine ⟨hkk, ?_⟩
  rw [h3]
  unfold loVal; rw [if_pos hkk]
  unfold lof; rw [lat_up (lval_iff.1 hv).2.2 hl h1 h2]
theorem lo_end {xs : List Tri} {key : Int} (h : loOk xs key = true) : loOk xs (loVal xs key).1 = true ∧ loVal xs (loVal xs key).1 = loVal xs key := by
  have h3 : loVal xs key = lof xs key := by unfold loVal; rw [if_pos h]
  have h0 := h
  unfold loOk at h
  simp only [Bool.and_eq_true] at h
  obtain ⟨hv, hk⟩ := h
  have hl := (lval_len hv).1
  have hm := (lval_iff.1 hv).2.1 _ (lof_mem hl key)
  rw [h3]
  have hkk : loOk xs (lof xs key).1 = true := by unfold loOk; rw [hv, hm.1]; rfl
  refine ⟨hkk, ?_⟩
  unfold loVal; rw [if_pos hkk]
  have e : lat xs (lof xs key).1 = lat xs key := lat_end (lval_iff.1 hv).2.2 (lof_at hl key)
  unfold lof at e ⊢; rw [e]
theorem lo_lt {xs : List Tri} {key : Int} (h : loOk xs key = true) : (0 ≤ (loVal xs key).1 ∧ (loVal xs key).1 < 64) ∧ 0 ≤ key := by
  have h3 : loVal xs key = lof xs key := by unfold loVal; rw [if_pos h]
  unfold loOk at h
  simp only [Bool.and_eq_true] at h
  have hm := (lval_iff.1 h.1).2.1 _ (lof_mem (lval_len h.1).1 key)
  rw [h3]
  exact ⟨pos_iff.1 hm.1, (pos_iff.1 h.2).1⟩
set_option maxHeartbeats 4000000 in
theorem walk (A : Option Addr) (c : Nat) (xs : List Int) (w : World) (w0 : Arg .u8 w A c xs) : Calls Try.prog 6 #[.slice A xs.length c] w fun e w' => e = .returned (.bool true) ∧ Below w.heap.size w w' := by
  have HO := Lib.hid (drawLof_any A c xs w w0)
  obtain ⟨hl, hc, -, -⟩ := w0
  unfold maxLen at hc
  by_cases hbig : 1048576 < xs.length
  · go_enter Try.func6, Try.ntmps6
    go_wp2
    go_ret
    exact ⟨rfl, Below.refl _ _⟩
  have hsm : xs.length ≤ 1048576 := by omega
  clear hbig hl hc
  go_enter Try.func6, Try.ntmps6
  go_wp2_with fail
  refine HO.out.mono ?_; rintro e w1 ⟨A1, c1, ys, key, rfl, ho, hy12, ⟨k0, k1⟩, hB⟩
  clear HO
  obtain ⟨hlc, hcm⟩ := ho.len
  have HI := fun (o : Int) (W : World) (h : OwnT W w.heap.size A1 c1 ys) => Lib.hid (lo_impl W.heap.size A1 c1 ys o hlc hcm W (Nat.le_refl _) h.tris)
  have HS := fun (W : World) (h : OwnT W w.heap.size A1 c1 ys) => Lib.hid (lo_spec W.heap.size A1 c1 ys key hlc hcm W (Nat.le_refl _) h.tris)
  unfold LoRet at HI HS
  cases hok : loOk ys key
  · skip
    have h1 := HI key w1 ho
    have hok : loOk ys key = false := hok
    rw [hok] at h1 HS
    generalize loVal ys key = v at h1 HS
    go_wp2_with fail
    refine h1.out.mono ?_; rintro e w2 ⟨rfl, hb2⟩
    replace ho := (ho.below hb2 (Nat.le_refl _)).alloc (.cells #[.int .i64 v.1, .int .i64 v.2.1, .int .i64 v.2.2] 30 (0, 0))
    have hgb0 := (below_next hB hb2).size
    replace hB := (below_next hB hb2).alloc (below_next hB hb2).size (.cells #[.int .i64 v.1, .int .i64 v.2.1, .int .i64 v.2.2] 30 (0, 0))
    have HT := Lib.hid (alloc_top w2 (.cells #[.int .i64 v.1, .int .i64 v.2.1, .int .i64 v.2.2] 30 (0, 0)))
    have hlt2 : w2.heap.size < (w2.alloc (.cells #[.int .i64 v.1, .int .i64 v.2.1, .int .i64 v.2.2] 30 (0, 0))).heap.size := by simp
    clear h1 hb2
    go_wp2_with fail
    generalize w2.alloc (.cells #[.int .i64 v.1, .int .i64 v.2.1, .int .i64 v.2.2] 30 (0, 0)) = W2 at hB HT hlt2 ho ⊢
    have h2 := HS W2 ho
    clear HS
    refine h2.out.mono ?_; rintro e w3 ⟨rfl, hb3⟩
    replace ho := (ho.below hb3 (Nat.le_refl _)).alloc (.cells #[.int .i64 v.1, .int .i64 v.2.1, .int .i64 v.2.2] 30 (0, 0))
    have hA3 : Below w3.heap.size w3 (w3.alloc (.cells #[.int .i64 v.1, .int .i64 v.2.1, .int .i64 v.2.2] 30 (0, 0))) := (Below.refl _ _).alloc (Nat.le_refl _) _
    have ht := (hA3.block _ (Nat.lt_of_lt_of_le hlt2 hb3.size)).trans ((hb3.block _ hlt2).trans HT.out)
    replace hB := below_next (below_next hB hb3) hA3
    have hgb : w.heap.size ≤ w2.heap.size := hgb0
    obtain ⟨q1, q2, q3⟩ := cells3 ht
    have HQ := Lib.hid ht
    have HO1 := Lib.hid ho
    have hne : w2.heap.size < w3.heap.size := Nat.lt_of_lt_of_le hlt2 hb3.size
    clear h2 hb3 ht HT hA3 hlt2 ho
    obtain ⟨r1, r2, r3⟩ := cells3 (alloc_top w3 (.cells #[.int .i64 v.1, .int .i64 v.2.1, .int .i64 v.2.2] 30 (0, 0)))
    go_wp2
    go_ret
    exact ⟨rfl, hB⟩
  · have HV := Lib.hid (And.intro (fun (k : Int) (h1 : key ≤ k) (h2 : k ≤ (loVal ys key).1) => lo_up hok h1 h2) (And.intro (lo_end hok) (lo_lt hok)))
    have h1 := HI key w1 ho
    have hok : loOk ys key = true := hok
    rw [hok] at h1 HS
    generalize loVal ys key = v at h1 HS HV
    go_wp2_with fail
    refine h1.out.mono ?_; rintro e w2 ⟨rfl, hb2⟩
    replace ho := (ho.below hb2 (Nat.le_refl _)).alloc (.cells #[.int .i64 v.1, .int .i64 v.2.1, .int .i64 v.2.2] 30 (0, 0))
    have hgb0 := (below_next hB hb2).size
    replace hB := (below_next hB hb2).alloc (below_next hB hb2).size (.cells #[.int .i64 v.1, .int .i64 v.2.1, .int .i64 v.2.2] 30 (0, 0))
    have HT := Lib.hid (alloc_top w2 (.cells #[.int .i64 v.1, .int .i64 v.2.1, .int .i64 v.2.2] 30 (0, 0)))
    have hlt2 : w2.heap.size < (w2.alloc (.cells #[.int .i64 v.1, .int .i64 v.2.1, .int .i64 v.2.2] 30 (0, 0))).heap.size := by simp
    clear h1 hb2
    go_wp2_with fail
    generalize w2.alloc (.cells #[.int .i64 v.1, .int .i64 v.2.1, .int .i64 v.2.2] 30 (0, 0)) = W2 at hB HT hlt2 ho ⊢
    have h2 := HS W2 ho
    clear HS
    refine h2.out.mono ?_; rintro e w3 ⟨rfl, hb3⟩
    replace ho := (ho.below hb3 (Nat.le_refl _)).alloc (.cells #[.int .i64 v.1, .int .i64 v.2.1, .int .i64 v.2.2] 30 (0, 0))
    have hA3 : Below w3.heap.size w3 (w3.alloc (.cells #[.int .i64 v.1, .int .i64 v.2.1, .int .i64 v.2.2] 30 (0, 0))) := (Below.refl _ _).alloc (Nat.le_refl _) _
    have ht := (hA3.block _ (Nat.lt_of_lt_of_le hlt2 hb3.size)).trans ((hb3.block _ hlt2).trans HT.out)
    replace hB := below_next (below_next hB hb3) hA3
    have hgb : w.heap.size ≤ w2.heap.size := hgb0
    obtain ⟨q1, q2, q3⟩ := cells3 ht
    have HQ := Lib.hid ht
    have HO1 := Lib.hid ho
    have hne : w2.heap.size < w3.heap.size := Nat.lt_of_lt_of_le hlt2 hb3.size
    clear h2 hb3 ht HT hA3 hlt2 ho
    obtain ⟨⟨hv0, hv1⟩, hk0⟩ := HV.out.2.2
    obtain ⟨r1, r2, r3⟩ := cells3 (alloc_top w3 (.cells #[.int .i64 v.1, .int .i64 v.2.1, .int .i64 v.2.2] 30 (0, 0)))
    clear r1 r2 r3
    go_wp2_with fail
    go_loopw [9] (fun i wr => ∃ z : Int, i = .int .i64 z ∧ key ≤ z ∧ z ≤ 65 ∧ wr.heap[w2.heap.size]? = some (.cells #[.int .i64 v.1, .int .i64 v.2.1, .int .i64 v.2.2] 30 (0, 0)) ∧ OwnT wr w.heap.size A1 c1 ys ∧ Below w.heap.size w wr) (fun i _ => (v.1 + 1 - intOf i).toNat)
    case atStart => exact ⟨key, rfl, Int.le_refl _, by omega, HQ.out, HO1.out, hB⟩
    case round =>
      clear HQ HO1 hB q1 q2 q3
      obtain ⟨z, rfl, hz1, hz2, ht, ho, hB⟩ := hrel
      obtain ⟨q1, q2, q3⟩ := cells3 ht
      by_cases hlt : z ≤ v.1
      · obtain ⟨e1, e2⟩ := HV.out.1 z hz1 hlt
        have h1 := HI z wr ho
        rw [e1, e2] at h1
        clear e1 e2 HI
        have HT := Lib.hid ht
        have HO := Lib.hid ho
        have hlb : w2.heap.size < wr.heap.size := (Array.getElem?_eq_some_iff.1 ht).1
        clear ht ho
        go_wp2_with fail
        refine h1.out.mono ?_; rintro e w4 ⟨rfl, hb4⟩
        have hA4 : Below w4.heap.size w4 (w4.alloc (.cells #[.int .i64 v.1, .int .i64 v.2.1, .int .i64 v.2.2] 30 (0, 0))) := (Below.refl _ _).alloc (Nat.le_refl _) _
        have hlb4 : w2.heap.size < w4.heap.size := Nat.lt_of_lt_of_le hlb hb4.size
        have ht := (hA4.block _ hlb4).trans ((hb4.block _ hlb).trans HT.out)
        clear q1 q2 q3 h1
        obtain ⟨q1, q2, q3⟩ := cells3 ((hb4.block _ hlb).trans HT.out)
        replace hB := below_next (below_next (w1 := wr) hB hb4) hA4
        replace HO := Lib.hid ((HO.out.below hb4 (Nat.le_refl _)).alloc (.cells #[.int .i64 v.1, .int .i64 v.2.1, .int .i64 v.2.2] 30 (0, 0)))
        have HT2 := Lib.hid ht
        clear ht hb4 hA4 HT
        go_wp2
        go_roundw
        case rel => exact ⟨z + 1, by go_num, by omega, by omega, HT2.out, HO.out, hB⟩
        case measure => simp [intOf]; omega
      · obtain ⟨e1, e2⟩ := HV.out.2.1
        have h1 := HI v.1 wr ho
        rw [e1, e2] at h1
        clear e1 e2 HI
        have HT := Lib.hid ht
        have hlb : w2.heap.size < wr.heap.size := (Array.getElem?_eq_some_iff.1 ht).1
        clear ht ho
        go_wp2_with fail
        first | go_quiet (fail) | skip
        refine h1.out.mono ?_; rintro e w4 ⟨rfl, hb4⟩
        have hlb4 : w2.heap.size < w4.heap.size := Nat.lt_of_lt_of_le hlb hb4.size
        clear q1 q2 q3 h1
        obtain ⟨q1, q2, q3⟩ := cells3 ((hb4.block _ hlb).trans HT.out)
        have hB5 := (below_next (w1 := wr) hB hb4).alloc (below_next (w1 := wr) hB hb4).size (.cells #[.int .i64 v.1, .int .i64 v.2.1, .int .i64 v.2.2] 30 (0, 0))
        clear hb4 HT hB
        go_wp2
        go_ret
        exact ⟨rfl, hB5⟩

set_option maxRecDepth 100000 in
theorem lifted (os : Os) (started : os.Started) (H : Type) (enc : TypeId × Value → H) :
    ReturnsInHanded {} Try.checked os 6 .any (Rows.fnLeaseOfSpec.pre6 enc Try.prog Try.f6 Rows.fnLeaseOfRow.domain false) (Rows.fnLeaseOfSpec.post enc Try.prog Try.f6 false true false false) := by
  refine returnsInHanded_of_change (C := Try.checked) own started (by kernel_rfl) Try.func6
    (ChangeSpec.witness6 (enc := enc) (C := Try.checked) false ⟨#[], #[.slice none 0 0], []⟩ 8 (by kernel_rfl) (by kernel_rfl) (by kernel_rfl) (by kernel_rfl)) ?_
  intro W base args ds gs before hval0 hW hcnd _
  have hval : ∀ (j : Nat) t v, Try.f6.params[j]? = some t → args[j]? = some v → Value.okWide Try.prog W .any base t v := hval0
  have hW' := hW
  obtain ⟨p, q, hA0, hV, rfl, hfz, hnd⟩ := hW
  have hA : DataW.TrodAll enc Try.prog W 0 (fun _ => true) true Try.f6.params.toList args.toList ds p := hA0
  rw [Try.params6] at hA hval
  obtain ⟨v0, vs0, d0, ds0, p0, q0, hargs, rfl, rfl, h0, r0⟩ := trodAll_cons hA
  obtain ⟨rfl, rfl, rfl⟩ := trodAll_nil r0
  obtain rfl : args = #[v0] := by cases args; simp_all
  obtain ⟨rfl, rfl⟩ := trodVars_none hV
  obtain ⟨A0, len0, c0, rfl⟩ := okWide_slice Try.underlying36 (hval 0 36 v0 rfl rfl)
  have k0 := h0
  have lt0 : ∀ x ∈ p0, x.block < W.heap.size := by obtain ⟨m, hm⟩ := k0; exact DataW.trod_lt m _ _ _ hm
  obtain ⟨xs0, rfl, w0⟩ : ∃ xs : List Int, xs.length = len0 ∧ Arg .u8 W A0 c0 xs := by
    obtain ⟨fuel, hf⟩ := h0
    rcases open_ints Try.underlying36 Try.underlying5 (by kernel_rfl) hf with ⟨hcs, _⟩ | ⟨x, l, c, zs, hcs, _, hl, hm, hz, _, hcell, hwz⟩
    · simp [Value.cells] at hcs
      obtain ⟨rfl, rfl, rfl⟩ := hcs
      exact Arg.none_
    · simp [Value.cells] at hcs
      obtain ⟨rfl, rfl, rfl⟩ := hcs
      exact Arg.row hl hm (by simpa using hz) hcell hwz
  clear hA0 hval0
  refine (walk A0 c0 xs0 W w0).mono fun e W' ⟨he, bel⟩ => ?_
  subst he
  exact ⟨_, rfl, _, _, _, [], _, [], hW', trodAll_mk1 (shut_bool Try.underlying4 _), (trodAll_cons_mk (Below.trod laidOut (by kernel_rfl) (of_decide_eq_true (by kernel_rfl)) k0 bel lt0) trodAll_mk0), rfl, bel.frame _, fun h => by cases h⟩

theorem nm : Try.f6.name = Rows.fnLeaseOfRow.func := by kernel_rfl
theorem notMain : decide (Check.packageOf Rows.fnLeaseOfRow.func = "main") = false := by kernel_rfl
theorem noWrapper : Func.isWrapper Try.prog Try.f6 Rows.fnLeaseOfRow.wrapper Rows.fnLeaseOfRow.mainSum := by
  unfold Func.isWrapper; rw [nm, if_neg (of_decide_eq_false notMain)]; exact ⟨rfl, rfl⟩
theorem closed : joinedFacts Try.prog 6 Try.f6 Rows.fnLeaseOfSpec Rows.fnLeaseOfRow = true := by
  unfold joinedFacts
  exact (andI (andI (andI (andI (andI (andI (andI (andI (andI (andI (andI (andI (andI (andI (andI (andI (andI (andI (andI (andI (andI (andI (andI (andI (andI (andI (andI (andI (andI (andI (andI (by kernel_rfl) laidOut) rowed) (by kernel_rfl)) (by kernel_rfl)) (by kernel_rfl)) (by kernel_rfl)) (by kernel_rfl)) (by kernel_rfl)) (by kernel_rfl)) (by kernel_rfl)) (by kernel_rfl)) (by kernel_rfl)) (by kernel_rfl)) (by kernel_rfl)) (by kernel_rfl)) (by kernel_rfl)) (by kernel_rfl)) (by kernel_rfl)) (by kernel_rfl)) (by kernel_rfl)) (by kernel_rfl)) (by rw [plain_keys]; kernel_rfl)) (by kernel_rfl)) heard) mayEnter) (by rw [liftsFinal]; kernel_rfl)) (by rw [makeCut]; kernel_rfl)) (by kernel_rfl)) (by kernel_rfl)) (by kernel_rfl)) (by kernel_rfl))
theorem noInstance : decide (Func.isInstance Try.prog Try.f6 Rows.fnLeaseOfRow.origin Rows.fnLeaseOfRow.targs) = true := by kernel_rfl
theorem named : Try.prog.funcNamed Rows.fnLeaseOfRow.func = some 6 := by kernel_rfl
theorem over : Rows.fnLeaseOfRow.holds Try.pinned (OpenSpec.ofChange Rows.fnLeaseOfSpec) :=
  OpenClaim.holds_of_wide 6 Try.f6 rfl rfl rfl rfl rfl rfl rfl ⟨rfl, rfl, rfl, rfl, rfl⟩ rfl rfl rfl rfl rfl named Try.func6 closed
    (of_decide_eq_true noInstance) noWrapper
    (fun os started H enc _ => lifted os started H enc)

/-- The statement. -/
theorem proved : Rows.FnLeaseOfSaid := over
#print axioms proved
end Go.Proofs.Ytmhmnopmafdmaaa.FnLeaseOf
