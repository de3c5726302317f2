/- The law FnLatestAll: all replicas know at least as much as a majority. Proved for every input, no condition: the law's Go function returns true, and each argument reads afterwards as it read before. -/
import Derived.Test.YtnfpgipbgillaaaSeat
import Derived.Test.YtnfpgipbgillaaaDrawR
import Derived.Test.YtnfpgipbgillaaaLatP
import Derived.WalkKit
import Derived.ProofKit
import Derived.OpenShut
import Derived.ShutString
import Derived.ChangeOld
import Derived.Below
namespace Go.Proofs.Ytnfpgipbgillaaa.FnLatestAll
open Go.ChangeShapes Go.WideShapes Go.ChangeAt Go.RowKit
open Go.ChangeMaps (open_string shut_string)
set_option linter.unusedVariables false
set_option maxHeartbeats 400000

theorem all_max {xs : List Tri} {ss : List Int} (h : rlOk xs ss = true) : rlOk xs (upto xs.length) = true ∧ repOlder (rlVal xs (upto xs.length)).1 (rlVal xs (upto xs.length)).2.1 (rlVal xs ss).1 (rlVal xs ss).2.1 = false := by
  obtain ⟨h1, h2⟩ := rl_yes h
  have hl := (reg_len h1).1
  have h3 : rlOk xs (upto xs.length) = true := by unfold rlOk; rw [h1, upto_most hl]; rfl
  refine ⟨h3, ?_⟩
  rw [rl_val h3, rl_val h]
  obtain ⟨j, s, h4, h5⟩ := lat_mem (xs := xs) (most_pos h2)
  obtain ⟨k, rfl, hk, hx⟩ := pick_at (most_set h2) h4
  rw [h5]
  exact lat_max (by rw [upto_len]; omega) (upto_at hk)
set_option maxHeartbeats 4000000 in
theorem walk (A : Option Addr) (c : Nat) (xs : List Int) (w : World) (w0 : Arg .u8 w A c xs) : Calls Try.prog 8 #[.slice A xs.length c] w fun e w' => e = .returned (.bool true) ∧ Below w.heap.size w w' := by
  have HO := Lib.hid (drawRl_any A c xs w w0)
  obtain ⟨hl, hc, -, -⟩ := w0
  unfold maxLen at hc
  by_cases hbig : 1048576 < xs.length
  · go_enter Try.func8, Try.ntmps8
    go_wp2
    go_ret
    exact ⟨rfl, Below.refl _ _⟩
  have hsm : xs.length ≤ 1048576 := by omega
  clear hbig hl hc
  go_enter Try.func8, Try.ntmps8
  go_wp2_with fail
  refine HO.out.mono ?_; rintro e w1 ⟨A1, c1, ys, A2, c2, ss, rfl, ho, hi, hy10, hs11, hB⟩
  clear HO
  obtain ⟨hlc, hcm⟩ := ho.len
  have hcm9 := hi.len
  have HI := fun (W : World) (h : OwnT W w.heap.size A1 c1 ys) (h' : OwnI W w.heap.size A2 c2 ss) => Lib.hid (rl_impl W.heap.size A1 A2 c1 c2 ys ss hlc hcm (by omega) W (Nat.le_refl _) h.tris h'.nums)
  have HS := fun (W : World) (h : OwnT W w.heap.size A1 c1 ys) (h' : OwnI W w.heap.size A2 c2 ss) => Lib.hid (rl_spec W.heap.size A1 A2 c1 c2 ys ss hlc hcm (by omega) W (Nat.le_refl _) h.tris h'.nums)
  unfold RlRet at HI HS
  cases hok : rlOk ys ss
  · skip
    have h1 := HI w1 ho hi
    rw [hok] at h1 HS
    generalize rlVal ys ss = v at h1 HS
    go_wp2_with fail
    refine h1.out.mono ?_; rintro e w2 ⟨rfl, hb2⟩
    replace ho := (ho.below hb2 (Nat.le_refl _)).alloc (.cells #[.int .i64 v.1, .int .i64 v.2.1, .int .i64 v.2.2] 32 (0, 0))
    replace hi := (hi.below hb2 (Nat.le_refl _)).alloc (.cells #[.int .i64 v.1, .int .i64 v.2.1, .int .i64 v.2.2] 32 (0, 0))
    have hgb0 := (below_next hB hb2).size
    replace hB := (below_next hB hb2).alloc (below_next hB hb2).size (.cells #[.int .i64 v.1, .int .i64 v.2.1, .int .i64 v.2.2] 32 (0, 0))
    have HT := Lib.hid (alloc_top w2 (.cells #[.int .i64 v.1, .int .i64 v.2.1, .int .i64 v.2.2] 32 (0, 0)))
    have hlt2 : w2.heap.size < (w2.alloc (.cells #[.int .i64 v.1, .int .i64 v.2.1, .int .i64 v.2.2] 32 (0, 0))).heap.size := by simp
    clear h1 hb2 HI
    go_wp2_with fail
    generalize w2.alloc (.cells #[.int .i64 v.1, .int .i64 v.2.1, .int .i64 v.2.2] 32 (0, 0)) = W2 at hB HT hlt2 ho hi ⊢
    have h2 := HS W2 ho hi
    clear HS
    refine h2.out.mono ?_; rintro e w3 ⟨rfl, hb3⟩
    replace ho := (ho.below hb3 (Nat.le_refl _)).alloc (.cells #[.int .i64 v.1, .int .i64 v.2.1, .int .i64 v.2.2] 32 (0, 0))
    replace hi := (hi.below hb3 (Nat.le_refl _)).alloc (.cells #[.int .i64 v.1, .int .i64 v.2.1, .int .i64 v.2.2] 32 (0, 0))
    have hA3 : Below w3.heap.size w3 (w3.alloc (.cells #[.int .i64 v.1, .int .i64 v.2.1, .int .i64 v.2.2] 32 (0, 0))) := (Below.refl _ _).alloc (Nat.le_refl _) _
    have ht := (hA3.block _ (Nat.lt_of_lt_of_le hlt2 hb3.size)).trans ((hb3.block _ hlt2).trans HT.out)
    replace hB := below_next (below_next hB hb3) hA3
    obtain ⟨q1, q2, q3⟩ := cells3 ht
    have HQ := Lib.hid ht
    have HO1 := Lib.hid ho
    have HI1 := Lib.hid hi
    have hne : w2.heap.size < w3.heap.size := Nat.lt_of_lt_of_le hlt2 hb3.size
    clear h2 hb3 ht HT hA3 hlt2 ho hi
    obtain ⟨r1, r2, r3⟩ := cells3 (alloc_top w3 (.cells #[.int .i64 v.1, .int .i64 v.2.1, .int .i64 v.2.2] 32 (0, 0)))
    go_wp2
    go_ret
    exact ⟨rfl, hB⟩
  · obtain ⟨hok2, hmx⟩ := all_max hok
    obtain ⟨hl1, hl5⟩ := reg_len (rl_yes hok).1
    have HALL := fun (W : World) (A5 : Option Addr) (c5 : Nat) (h : OwnT W w.heap.size A1 c1 ys) (h' : OwnI W w.heap.size A5 c5 (upto ys.length)) => Lib.hid (rl_impl W.heap.size A1 A5 c1 c5 ys (upto ys.length) hlc hcm (by rw [upto_len]; omega) W (Nat.le_refl _) h.tris h'.nums)
    unfold RlRet at HALL
    rw [hok2, upto_len] at HALL
    generalize rlVal ys (upto ys.length) = u at HALL hmx
    have HV := Lib.hid hmx
    clear hok2 hmx
    have h1 := HI w1 ho hi
    rw [hok] at h1 HS
    have HV2 := HV
    clear HV
    have HV := HV2.out
    generalize rlVal ys ss = v at h1 HS HV
    go_wp2_with fail
    refine h1.out.mono ?_; rintro e w2 ⟨rfl, hb2⟩
    replace ho := (ho.below hb2 (Nat.le_refl _)).alloc (.cells #[.int .i64 v.1, .int .i64 v.2.1, .int .i64 v.2.2] 32 (0, 0))
    replace hi := (hi.below hb2 (Nat.le_refl _)).alloc (.cells #[.int .i64 v.1, .int .i64 v.2.1, .int .i64 v.2.2] 32 (0, 0))
    have hgb0 := (below_next hB hb2).size
    replace hB := (below_next hB hb2).alloc (below_next hB hb2).size (.cells #[.int .i64 v.1, .int .i64 v.2.1, .int .i64 v.2.2] 32 (0, 0))
    have HT := Lib.hid (alloc_top w2 (.cells #[.int .i64 v.1, .int .i64 v.2.1, .int .i64 v.2.2] 32 (0, 0)))
    have hlt2 : w2.heap.size < (w2.alloc (.cells #[.int .i64 v.1, .int .i64 v.2.1, .int .i64 v.2.2] 32 (0, 0))).heap.size := by simp
    clear h1 hb2
    go_wp2_with fail
    generalize w2.alloc (.cells #[.int .i64 v.1, .int .i64 v.2.1, .int .i64 v.2.2] 32 (0, 0)) = W2 at hB HT hlt2 ho hi ⊢
    have h2 := HS W2 ho hi
    clear HS
    refine h2.out.mono ?_; rintro e w3 ⟨rfl, hb3⟩
    replace ho := (ho.below hb3 (Nat.le_refl _)).alloc (.cells #[.int .i64 v.1, .int .i64 v.2.1, .int .i64 v.2.2] 32 (0, 0))
    replace hi := (hi.below hb3 (Nat.le_refl _)).alloc (.cells #[.int .i64 v.1, .int .i64 v.2.1, .int .i64 v.2.2] 32 (0, 0))
    have hA3 : Below w3.heap.size w3 (w3.alloc (.cells #[.int .i64 v.1, .int .i64 v.2.1, .int .i64 v.2.2] 32 (0, 0))) := (Below.refl _ _).alloc (Nat.le_refl _) _
    have ht := (hA3.block _ (Nat.lt_of_lt_of_le hlt2 hb3.size)).trans ((hb3.block _ hlt2).trans HT.out)
    replace hB := below_next (below_next hB hb3) hA3
    obtain ⟨q1, q2, q3⟩ := cells3 ht
    have HQ := Lib.hid ht
    have HO1 := Lib.hid ho
    have HI1 := Lib.hid hi
    have hne : w2.heap.size < w3.heap.size := Nat.lt_of_lt_of_le hlt2 hb3.size
    clear h2 hb3 ht HT hA3 hlt2 ho hi
    obtain ⟨r1, r2, r3⟩ := cells3 (alloc_top w3 (.cells #[.int .i64 v.1, .int .i64 v.2.1, .int .i64 v.2.2] 32 (0, 0)))
    clear r1 r2 r3 HI HI1
    have HE := fun (W : World) => Lib.hid (everyone_any ys.length (by omega) W)
    have HV3 := Lib.hid HV
    clear HV HV2
    go_wp2_with fail
    refine (HE _).out.mono ?_; rintro e w4 ⟨A5, c5, rfl, hi5, hb4⟩
    have ho4 := HO1.out.below hb4 (Nat.le_refl _)
    have ht4 := (hb4.block w2.heap.size (by simp; omega)).trans HQ.out
    have h5 := HALL w4 A5 c5 ho4 (hi5.base hB.size)
    replace hB := below_next hB hb4
    clear hb4 hi5 ho4 HALL HO1 HQ q1 q2 q3 HE
    have HT4 := Lib.hid ht4
    clear ht4
    go_wp2_with fail
    refine h5.out.mono ?_; rintro e w5 ⟨rfl, hb5⟩
    have ht5 := (hb5.block w2.heap.size (Array.getElem?_eq_some_iff.1 HT4.out).1).trans HT4.out
    obtain ⟨q1, q2, q3⟩ := cells3 ht5
    have hl5' : w2.heap.size < w5.heap.size := (Array.getElem?_eq_some_iff.1 ht5).1
    replace hB := below_next hB hb5
    clear hb5 HT4 ht5 h5
    have hmx := HV3.out
    obtain ⟨u1, u2, u3⟩ := u
    obtain ⟨v1, v2, v3⟩ := v
    simp only at q1 q2 q3 hmx
    go_wp2_with (go_at_call 21; refine (lolder_any u1 u2 u3 v1 v2 v3 _).mono ?_; rw [hmx]; rintro e w6 ⟨rfl, hb6⟩)
    go_ret
    exact ⟨rfl, (hB.alloc hB.size _).trans (hb6.mono (by have := hB.size; simp; omega))⟩

set_option maxRecDepth 100000 in
theorem lifted (os : Os) (started : os.Started) (H : Type) (enc : TypeId × Value → H) :
    ReturnsInHanded {} Try.checked os 8 .any (Rows.fnLatestAllSpec.pre6 enc Try.prog Try.f8 Rows.fnLatestAllRow.domain false) (Rows.fnLatestAllSpec.post enc Try.prog Try.f8 false true false false) := by
  refine returnsInHanded_of_change (C := Try.checked) own started (by kernel_rfl) Try.func8
    (ChangeSpec.witness6 (enc := enc) (C := Try.checked) false ⟨#[], #[.slice none 0 0], []⟩ 8 (by kernel_rfl) (by kernel_rfl) (by kernel_rfl) (by kernel_rfl)) ?_
  intro W base args ds gs before hval0 hW hcnd _
  have hval : ∀ (j : Nat) t v, Try.f8.params[j]? = some t → args[j]? = some v → Value.okWide Try.prog W .any base t v := hval0
  have hW' := hW
  obtain ⟨p, q, hA0, hV, rfl, hfz, hnd⟩ := hW
  have hA : DataW.TrodAll enc Try.prog W 0 (fun _ => true) true Try.f8.params.toList args.toList ds p := hA0
  rw [Try.params8] at hA hval
  obtain ⟨v0, vs0, d0, ds0, p0, q0, hargs, rfl, rfl, h0, r0⟩ := trodAll_cons hA
  obtain ⟨rfl, rfl, rfl⟩ := trodAll_nil r0
  obtain rfl : args = #[v0] := by cases args; simp_all
  obtain ⟨rfl, rfl⟩ := trodVars_none hV
  obtain ⟨A0, len0, c0, rfl⟩ := okWide_slice Try.underlying29 (hval 0 29 v0 rfl rfl)
  have k0 := h0
  have lt0 : ∀ x ∈ p0, x.block < W.heap.size := by obtain ⟨m, hm⟩ := k0; exact DataW.trod_lt m _ _ _ hm
  obtain ⟨xs0, rfl, w0⟩ : ∃ xs : List Int, xs.length = len0 ∧ Arg .u8 W A0 c0 xs := by
    obtain ⟨fuel, hf⟩ := h0
    rcases open_ints Try.underlying29 Try.underlying5 (by kernel_rfl) hf with ⟨hcs, _⟩ | ⟨x, l, c, zs, hcs, _, hl, hm, hz, _, hcell, hwz⟩
    · simp [Value.cells] at hcs
      obtain ⟨rfl, rfl, rfl⟩ := hcs
      exact Arg.none_
    · simp [Value.cells] at hcs
      obtain ⟨rfl, rfl, rfl⟩ := hcs
      exact Arg.row hl hm (by simpa using hz) hcell hwz
  clear hA0 hval0
  refine (walk A0 c0 xs0 W w0).mono fun e W' ⟨he, bel⟩ => ?_
  subst he
  exact ⟨_, rfl, _, _, _, [], _, [], hW', trodAll_mk1 (shut_bool Try.underlying4 _), (trodAll_cons_mk (Below.trod laidOut (by kernel_rfl) (of_decide_eq_true (by kernel_rfl)) k0 bel lt0) trodAll_mk0), rfl, bel.frame _, fun h => by cases h⟩

theorem nm : Try.f8.name = Rows.fnLatestAllRow.func := by kernel_rfl
theorem notMain : decide (Check.packageOf Rows.fnLatestAllRow.func = "main") = false := by kernel_rfl
theorem noWrapper : Func.isWrapper Try.prog Try.f8 Rows.fnLatestAllRow.wrapper Rows.fnLatestAllRow.mainSum := by
  unfold Func.isWrapper; rw [nm, if_neg (of_decide_eq_false notMain)]; exact ⟨rfl, rfl⟩
theorem closed : joinedFacts Try.prog 8 Try.f8 Rows.fnLatestAllSpec Rows.fnLatestAllRow = true := by
  unfold joinedFacts
  exact (andI (andI (andI (andI (andI (andI (andI (andI (andI (andI (andI (andI (andI (andI (andI (andI (andI (andI (andI (andI (andI (andI (andI (andI (andI (andI (andI (andI (andI (andI (andI (by kernel_rfl) laidOut) rowed) (by kernel_rfl)) (by kernel_rfl)) (by kernel_rfl)) (by kernel_rfl)) (by kernel_rfl)) (by kernel_rfl)) (by kernel_rfl)) (by kernel_rfl)) (by kernel_rfl)) (by kernel_rfl)) (by kernel_rfl)) (by kernel_rfl)) (by kernel_rfl)) (by kernel_rfl)) (by kernel_rfl)) (by kernel_rfl)) (by kernel_rfl)) (by kernel_rfl)) (by kernel_rfl)) (by rw [plain_keys]; kernel_rfl)) (by kernel_rfl)) heard) mayEnter) (by rw [liftsFinal]; kernel_rfl)) (by rw [makeCut]; kernel_rfl)) (by kernel_rfl)) (by kernel_rfl)) (by kernel_rfl)) (by kernel_rfl))
theorem noInstance : decide (Func.isInstance Try.prog Try.f8 Rows.fnLatestAllRow.origin Rows.fnLatestAllRow.targs) = true := by kernel_rfl
theorem named : Try.prog.funcNamed Rows.fnLatestAllRow.func = some 8 := by kernel_rfl
theorem over : Rows.fnLatestAllRow.holds Try.pinned (OpenSpec.ofChange Rows.fnLatestAllSpec) :=
  OpenClaim.holds_of_wide 8 Try.f8 rfl rfl rfl rfl rfl rfl rfl ⟨rfl, rfl, rfl, rfl, rfl⟩ rfl rfl rfl rfl rfl named Try.func8 closed
    (of_decide_eq_true noInstance) noWrapper
    (fun os started H enc _ => lifted os started H enc)

/-- The statement. -/
theorem proved : Rows.FnLatestAllSaid := over
#print axioms proved
end Go.Proofs.Ytnfpgipbgillaaa.FnLatestAll
