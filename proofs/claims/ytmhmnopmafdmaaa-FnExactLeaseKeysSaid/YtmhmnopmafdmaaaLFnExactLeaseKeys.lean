/- The law FnExactLeaseKeys: LeaseKeys returns what the reference returns, and leaves its argument as it was. Proved for every input, no condition: the law's Go function returns true, and each argument reads afterwards as it read before. -/
import Derived.Test.YtmhmnopmafdmaaaSeat
import Derived.Test.YtmhmnopmafdmaaaKeys
import Derived.Test.YtmhmnopmafdmaaaTriArg
import Derived.WalkKit
import Derived.ProofKit
import Derived.OpenShut
import Derived.ShutString
import Derived.ChangeOld
import Derived.Below
namespace Go.Proofs.Ytmhmnopmafdmaaa.FnExactLeaseKeys
open Go.ChangeShapes Go.WideShapes Go.ChangeAt Go.RowKit
open Go.ChangeMaps (open_string shut_string)
set_option linter.unusedVariables false
set_option maxHeartbeats 400000

theorem walk (A : Option Addr) (c : Nat) (xs : List Tri) (key : Int) (w : World) (w0 : ArgT w A c xs) (w9 : (Lit.int .i64 key).wf = true) : Calls Try.prog 5 #[.slice A xs.length c, .int .i64 key] w fun e w' => e = .returned (.bool true) ∧ Below w.heap.size w w' := by
  obtain ⟨hl, hc, hn⟩ := w0
  have H0 := Lib.hid (szTri_any A xs.length c 1048576 (by omega) (by omega) (by omega) w)
  by_cases hbig : 1048576 < xs.length
  · rw [if_pos (by omega)] at H0
    clear hn
    unfold maxLen at hc
    go_enter Try.func5, Try.ntmps5
    go_wp2_with fail
    refine (H0.out).mono ?_; rintro e w1 ⟨rfl, rfl⟩
    go_wp2
    go_ret
    exact ⟨rfl, Below.refl _ _⟩
  · have hlen : xs.length ≤ 1048576 := by omega
    rw [if_neg (by omega)] at H0
    have hmax : xs.length ≤ maxLen := by unfold maxLen; omega
    have hsm : ¬ (1048576 : Int) - (xs.length : Int) < 0 := by omega
    have C1 := fun (w1 : World) (h1 : Below w.heap.size w w1) => Lib.hid (toTriS_any w.heap.size A c xs hlen w1 h1.size (hn.below h1))
    have C2 := fun (w1 : World) (A' : Option Addr) (h1 : TrisAt w1 w1.heap.size A' xs) => Lib.hid (lk_spec w1.heap.size A' xs.length xs key (Nat.le_refl _) hmax w1 (Nat.le_refl _) h1)
    have C3 := fun (w1 : World) (A' : Option Addr) (h1 : TrisAt w1 w1.heap.size A' xs) => Lib.hid (lk_impl w1.heap.size A' xs.length xs key (Nat.le_refl _) hmax w1 (Nat.le_refl _) h1)
    have C4 := fun (w1 : World) (A' A'' : Option Addr) (h1 : TrisAt w1 w1.heap.size A' xs) (h2 : TrisAt w1 w1.heap.size A'' xs) => Lib.hid (eqTriS_any w1.heap.size A' A'' xs.length xs.length xs xs hmax hmax w1 (Nat.le_refl _) h1 h2)
    generalize lkVal xs key = v at C2 C3
    clear hn hbig hmax w9
    have hc' : xs.length ≤ 1048576 := hlen
    clear hl hc
    go_enter Try.func5, Try.ntmps5
    go_wp2_with fail
    refine (H0.out).mono ?_; rintro e w1 ⟨rfl, rfl⟩
    go_wp2_with fail
    refine ((C1 _ (Below.refl _ _)).out).mono ?_; rintro e w1 ⟨rfl, ho1, hb1⟩
    go_wp2_with fail
    refine ((C2 w1 _ ho1.tris).out).mono ?_; rintro e w2 ⟨rfl, hb2⟩
    have hB2 := below_next hb1 hb2
    go_wp2_with fail
    refine ((C1 w2 hB2).out).mono ?_; rintro e w3 ⟨rfl, ho3, hb3⟩
    have hB3 := below_next hB2 hb3
    go_wp2_with fail
    refine ((C3 w3 _ ho3.tris).out).mono ?_; rintro e w4 ⟨rfl, hb4⟩
    have hB4 := below_next hB3 hb4
    have ho4 := ho3.below hb4 (Nat.le_refl _)
    go_wp2_with fail
    refine ((C1 w4 hB4).out).mono ?_; rintro e w5 ⟨rfl, ho5, hb5⟩
    have hB5 := below_next hB4 hb5
    go_wp2_with fail
    refine ((C4 w5 _ _ ((ho4.below hb5 (Nat.le_refl _)).tris) ho5.tris).out).mono ?_; rintro e w6 ⟨rfl, hb6⟩
    have hB6 := below_next hB5 hb6
    go_wp2
    go_ret
    exact ⟨rfl, hB6⟩

set_option maxRecDepth 100000 in
theorem lifted (os : Os) (started : os.Started) (H : Type) (enc : TypeId × Value → H) :
    ReturnsInHanded {} Try.checked os 5 .any (Rows.fnExactLeaseKeysSpec.pre6 enc Try.prog Try.f5 Rows.fnExactLeaseKeysRow.domain false) (Rows.fnExactLeaseKeysSpec.post enc Try.prog Try.f5 false true false false) := by
  refine returnsInHanded_of_change (C := Try.checked) own started (by kernel_rfl) Try.func5
    (ChangeSpec.witness6 (enc := enc) (C := Try.checked) false ⟨#[], #[.slice none 0 0, .int .i64 0], []⟩ 8 (by kernel_rfl) (by kernel_rfl) (by kernel_rfl) (by kernel_rfl)) ?_
  intro W base args ds gs before hval0 hW hcnd _
  have hval : ∀ (j : Nat) t v, Try.f5.params[j]? = some t → args[j]? = some v → Value.okWide Try.prog W .any base t v := hval0
  have hW' := hW
  obtain ⟨p, q, hA0, hV, rfl, hfz, hnd⟩ := hW
  have hA : DataW.TrodAll enc Try.prog W 0 (fun _ => true) true Try.f5.params.toList args.toList ds p := hA0
  rw [Try.params5] at hA hval
  obtain ⟨v0, vs0, d0, ds0, p0, q0, hargs, rfl, rfl, h0, r0⟩ := trodAll_cons hA
  obtain ⟨v1, vs1, d1, ds1, p1, q1, rfl, rfl, rfl, h1, r1⟩ := trodAll_cons r0
  obtain ⟨rfl, rfl, rfl⟩ := trodAll_nil r1
  obtain rfl : args = #[v0, v1] := by cases args; simp_all
  obtain ⟨rfl, rfl⟩ := trodVars_none hV
  obtain ⟨A0, len0, c0, rfl⟩ := okWide_slice Try.underlying22 (hval 0 22 v0 rfl rfl)
  have k0 := h0
  have lt0 : ∀ x ∈ p0, x.block < W.heap.size := by obtain ⟨m, hm⟩ := k0; exact DataW.trod_lt m _ _ _ hm
  obtain ⟨xs0, rfl, w0⟩ : ∃ xs : List Tri, xs.length = len0 ∧ ArgT W A0 c0 xs := by
    obtain ⟨fuel, hf⟩ := h0
    rcases open_tris Try.underlying22 Try.underlying46 (by kernel_rfl) (by kernel_rfl) rfl (fun j hj => match j, hj with | 0, _ => congrArg some Try.underlying3 | 1, _ => congrArg some Try.underlying3 | 2, _ => congrArg some Try.underlying3 | _ + 3, h => absurd h (by omega)) hf with hcs | ⟨x, l, c, zs, hcs, hz, ha⟩
    · simp [Value.cells] at hcs
      obtain ⟨rfl, rfl, rfl⟩ := hcs
      exact ArgT.none_
    · simp [Value.cells] at hcs
      obtain ⟨rfl, rfl, rfl⟩ := hcs
      exact ⟨zs, hz, ha⟩
  obtain ⟨a1, rfl, rfl, rfl, w1⟩ := open_int Try.underlying3 (hval 1 3 v1 rfl rfl) h1
  clear hA0 hval0
  refine (walk A0 c0 xs0 a1 W w0 w1).mono fun e W' ⟨he, bel⟩ => ?_
  subst he
  exact ⟨_, rfl, _, _, _, [], _, [], hW', trodAll_mk1 (shut_bool Try.underlying4 _), (trodAll_cons_mk (Below.trod laidOut (by kernel_rfl) (of_decide_eq_true (by kernel_rfl)) k0 bel lt0) (trodAll_cons_mk (shut_int Try.underlying3 w1) trodAll_mk0)), rfl, bel.frame _, fun h => by cases h⟩

theorem nm : Try.f5.name = Rows.fnExactLeaseKeysRow.func := by kernel_rfl
theorem notMain : decide (Check.packageOf Rows.fnExactLeaseKeysRow.func = "main") = false := by kernel_rfl
theorem noWrapper : Func.isWrapper Try.prog Try.f5 Rows.fnExactLeaseKeysRow.wrapper Rows.fnExactLeaseKeysRow.mainSum := by
  unfold Func.isWrapper; rw [nm, if_neg (of_decide_eq_false notMain)]; exact ⟨rfl, rfl⟩
theorem closed : joinedFacts Try.prog 5 Try.f5 Rows.fnExactLeaseKeysSpec Rows.fnExactLeaseKeysRow = true := by
  unfold joinedFacts
  exact (andI (andI (andI (andI (andI (andI (andI (andI (andI (andI (andI (andI (andI (andI (andI (andI (andI (andI (andI (andI (andI (andI (andI (andI (andI (andI (andI (andI (andI (andI (andI (by kernel_rfl) laidOut) rowed) (by kernel_rfl)) (by kernel_rfl)) (by kernel_rfl)) (by kernel_rfl)) (by kernel_rfl)) (by kernel_rfl)) (by kernel_rfl)) (by kernel_rfl)) (by kernel_rfl)) (by kernel_rfl)) (by kernel_rfl)) (by kernel_rfl)) (by kernel_rfl)) (by kernel_rfl)) (by kernel_rfl)) (by kernel_rfl)) (by kernel_rfl)) (by kernel_rfl)) (by kernel_rfl)) (by rw [plain_keys]; kernel_rfl)) (by kernel_rfl)) heard) mayEnter) (by rw [liftsFinal]; kernel_rfl)) (by rw [makeCut]; kernel_rfl)) (by kernel_rfl)) (by kernel_rfl)) (by kernel_rfl)) (by kernel_rfl))
theorem noInstance : decide (Func.isInstance Try.prog Try.f5 Rows.fnExactLeaseKeysRow.origin Rows.fnExactLeaseKeysRow.targs) = true := by kernel_rfl
theorem named : Try.prog.funcNamed Rows.fnExactLeaseKeysRow.func = some 5 := by kernel_rfl
theorem over : Rows.fnExactLeaseKeysRow.holds Try.pinned (OpenSpec.ofChange Rows.fnExactLeaseKeysSpec) :=
  OpenClaim.holds_of_wide 5 Try.f5 rfl rfl rfl rfl rfl rfl rfl ⟨rfl, rfl, rfl, rfl, rfl⟩ rfl rfl rfl rfl rfl named Try.func5 closed
    (of_decide_eq_true noInstance) noWrapper
    (fun os started H enc _ => lifted os started H enc)

/-- The statement. -/
theorem proved : Rows.FnExactLeaseKeysSaid := over
#print axioms proved
end Go.Proofs.Ytmhmnopmafdmaaa.FnExactLeaseKeys
