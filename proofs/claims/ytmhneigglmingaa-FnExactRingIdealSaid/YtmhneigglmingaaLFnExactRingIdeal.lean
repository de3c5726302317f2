/- The law FnExactRingIdeal: RingIdeal returns what the reference returns, and leaves its argument as it was. Proved for every input, no condition: the law's Go function returns true, and each argument reads afterwards as it read before. -/
import Derived.Test.YtmhneigglmingaaSeat
import Derived.Test.YtmhneigglmingaaIdeal
import Derived.WalkKit
import Derived.ProofKit
import Derived.OpenShut
import Derived.ShutString
import Derived.ChangeOld
import Derived.Below
namespace Go.Proofs.Ytmhneigglmingaa.FnExactRingIdeal
open Go.ChangeShapes Go.WideShapes Go.ChangeAt Go.RowKit
open Go.ChangeMaps (open_string shut_string)
set_option linter.unusedVariables false
set_option maxHeartbeats 400000

theorem walk (A : Option Addr) (c : Nat) (xs : List Nod) (w : World) (w0 : ArgN w A c xs) : Calls Try.prog 7 #[.slice A xs.length c] w fun e w' => e = .returned (.bool true) ∧ Below w.heap.size w w' := by
  obtain ⟨hl, hc, hn⟩ := w0
  have H0 := Lib.hid (szNodes_any w.heap.size A c xs hl hc w (Nat.le_refl _) hn)
  by_cases hin : xs.length ≤ 1048576 ∧ fits xs
  · obtain ⟨hlen, hfit⟩ := hin
    have hmax : xs.length ≤ maxLen := by unfold maxLen; omega
    have C1 := fun (w1 : World) (h1 : Below w.heap.size w w1) => Lib.hid (toNodeS_any w.heap.size A c xs hlen hfit w1 h1.size (hn.below h1))
    have C2 := fun (w1 : World) (A' : Option Addr) (h1 : NodAt w1 w1.heap.size A' xs) => Lib.hid (rid_spec w1.heap.size A' xs.length xs (Nat.le_refl _) hmax w1 (Nat.le_refl _) h1)
    have C3 := fun (w1 : World) (A' : Option Addr) (h1 : NodAt w1 w1.heap.size A' xs) => Lib.hid (rid_impl w1.heap.size A' xs.length xs (Nat.le_refl _) hmax w1 (Nat.le_refl _) h1)
    have C4 := fun (w1 : World) (A' A'' : Option Addr) (h1 : NodAt w1 w1.heap.size A' xs) (h2 : NodAt w1 w1.heap.size A'' xs) => Lib.hid (eqNodeS_same A' A'' xs.length xs.length xs hlen hfit w1 h1 h2)
    clear hn hmax
    have hc' : xs.length ≤ 1048576 := hlen
    clear hl hc hfit
    go_enter Try.func7, Try.ntmps7
    go_wp2_with fail
    refine (H0.out).mono ?_; rintro e w1 ⟨⟨r, rfl, hr⟩, hb0⟩
    by_cases hneg : r < 0
    · clear hr
      go_wp2
      go_ret
      exact ⟨rfl, hb0⟩
    have hneg' : 0 ≤ r := by omega
    clear hr hneg
    go_wp2_with fail
    refine ((C1 _ hb0).out).mono ?_; rintro e w2 ⟨rfl, ho1, hb1⟩
    have hB1 := below_next hb0 hb1
    go_wp2_with fail
    refine ((C2 w2 _ ho1.nod).out).mono ?_; rintro e w3 ⟨rfl, hb2⟩
    have hB2 := below_next hB1 hb2
    go_wp2_with fail
    refine ((C1 w3 hB2).out).mono ?_; rintro e w4 ⟨rfl, ho3, hb3⟩
    have hB3 := below_next hB2 hb3
    go_wp2_with fail
    refine ((C3 w4 _ ho3.nod).out).mono ?_; rintro e w5 ⟨rfl, hb4⟩
    have hB4 := below_next hB3 hb4
    have ho4 := ho3.below hb4 (Nat.le_refl _)
    go_wp2_with fail
    refine ((C1 w5 hB4).out).mono ?_; rintro e w6 ⟨rfl, ho5, hb5⟩
    have hB5 := below_next hB4 hb5
    go_wp2_with fail
    refine ((C4 w6 _ _ ((ho4.below hb5 (Nat.le_refl _)).nod) ho5.nod).out).mono ?_; rintro e w7 ⟨rfl, hb6⟩
    have hB6 := below_next hB5 hb6
    go_wp2
    go_ret
    exact ⟨rfl, hB6⟩
  · clear hn
    go_enter Try.func7, Try.ntmps7
    go_wp2_with fail
    refine (H0.out).mono ?_; rintro e w1 ⟨⟨r, rfl, hr⟩, hb0⟩
    have hneg : r < 0 := by rcases hr with h | h; exact h; exact absurd h hin
    clear hr hin
    go_wp2
    go_ret
    exact ⟨rfl, hb0⟩

set_option maxRecDepth 100000 in
theorem lifted (os : Os) (started : os.Started) (H : Type) (enc : TypeId × Value → H) :
    ReturnsInHanded {} Try.checked os 7 .any (Rows.fnExactRingIdealSpec.pre6 enc Try.prog Try.f7 Rows.fnExactRingIdealRow.domain false) (Rows.fnExactRingIdealSpec.post enc Try.prog Try.f7 false true false false) := by
  refine returnsInHanded_of_change (C := Try.checked) own started (by kernel_rfl) Try.func7
    (ChangeSpec.witness6 (enc := enc) (C := Try.checked) false ⟨#[], #[.slice none 0 0], []⟩ 8 (by kernel_rfl) (by kernel_rfl) (by kernel_rfl) (by kernel_rfl)) ?_
  intro W base args ds gs before hval0 hW hcnd _
  have hval : ∀ (j : Nat) t v, Try.f7.params[j]? = some t → args[j]? = some v → Value.okWide Try.prog W .any base t v := hval0
  have hW' := hW
  obtain ⟨p, q, hA0, hV, rfl, hfz, hnd⟩ := hW
  have hA : DataW.TrodAll enc Try.prog W 0 (fun _ => true) true Try.f7.params.toList args.toList ds p := hA0
  rw [Try.params7] at hA hval
  obtain ⟨v0, vs0, d0, ds0, p0, q0, hargs, rfl, rfl, h0, r0⟩ := trodAll_cons hA
  obtain ⟨rfl, rfl, rfl⟩ := trodAll_nil r0
  obtain rfl : args = #[v0] := by cases args; simp_all
  obtain ⟨rfl, rfl⟩ := trodVars_none hV
  obtain ⟨A0, len0, c0, rfl⟩ := okWide_slice Try.underlying22 (hval 0 22 v0 rfl rfl)
  have k0 := h0
  have lt0 : ∀ x ∈ p0, x.block < W.heap.size := by obtain ⟨m, hm⟩ := k0; exact DataW.trod_lt m _ _ _ hm
  obtain ⟨xs0, rfl, w0⟩ : ∃ xs : List Nod, xs.length = len0 ∧ ArgN W A0 c0 xs := by
    obtain ⟨fuel, hf⟩ := h0
    rcases open_nodes Try.underlying22 Try.underlying40 (by kernel_rfl) (by kernel_rfl) rfl (fun j hj => match j, hj with | 0, _ => congrArg some Try.underlying3 | 1, _ => congrArg some Try.underlying3 | _ + 2, h => absurd h (by omega)) (congrArg some Try.underlying29) Try.underlying3 (by kernel_rfl) hf with hcs | ⟨x, l, c, zs, hcs, hz, ha⟩
    · simp [Value.cells] at hcs
      obtain ⟨rfl, rfl, rfl⟩ := hcs
      exact ArgN.none_
    · simp [Value.cells] at hcs
      obtain ⟨rfl, rfl, rfl⟩ := hcs
      exact ⟨zs, hz, ha⟩
  clear hA0 hval0
  refine (walk A0 c0 xs0 W w0).mono fun e W' ⟨he, bel⟩ => ?_
  subst he
  exact ⟨_, rfl, _, _, _, [], _, [], hW', trodAll_mk1 (shut_bool Try.underlying4 _), (trodAll_cons_mk (Below.trod laidOut (by kernel_rfl) (of_decide_eq_true (by kernel_rfl)) k0 bel lt0) trodAll_mk0), rfl, bel.frame _, fun h => by cases h⟩

theorem nm : Try.f7.name = Rows.fnExactRingIdealRow.func := by kernel_rfl
theorem notMain : decide (Check.packageOf Rows.fnExactRingIdealRow.func = "main") = false := by kernel_rfl
theorem noWrapper : Func.isWrapper Try.prog Try.f7 Rows.fnExactRingIdealRow.wrapper Rows.fnExactRingIdealRow.mainSum := by
  unfold Func.isWrapper; rw [nm, if_neg (of_decide_eq_false notMain)]; exact ⟨rfl, rfl⟩
theorem closed : joinedFacts Try.prog 7 Try.f7 Rows.fnExactRingIdealSpec Rows.fnExactRingIdealRow = true := by
  unfold joinedFacts
  exact (andI (andI (andI (andI (andI (andI (andI (andI (andI (andI (andI (andI (andI (andI (andI (andI (andI (andI (andI (andI (andI (andI (andI (andI (andI (andI (andI (andI (andI (andI (andI (by kernel_rfl) laidOut) rowed) (by kernel_rfl)) (by kernel_rfl)) (by kernel_rfl)) (by kernel_rfl)) (by kernel_rfl)) (by kernel_rfl)) (by kernel_rfl)) (by kernel_rfl)) (by kernel_rfl)) (by kernel_rfl)) (by kernel_rfl)) (by kernel_rfl)) (by kernel_rfl)) (by kernel_rfl)) (by kernel_rfl)) (by kernel_rfl)) (by kernel_rfl)) (by kernel_rfl)) (by kernel_rfl)) (by rw [plain_keys]; kernel_rfl)) (by kernel_rfl)) heard) mayEnter) (by rw [liftsFinal]; kernel_rfl)) (by rw [makeCut]; kernel_rfl)) (by kernel_rfl)) (by kernel_rfl)) (by kernel_rfl)) (by kernel_rfl))
theorem noInstance : decide (Func.isInstance Try.prog Try.f7 Rows.fnExactRingIdealRow.origin Rows.fnExactRingIdealRow.targs) = true := by kernel_rfl
theorem named : Try.prog.funcNamed Rows.fnExactRingIdealRow.func = some 7 := by kernel_rfl
theorem over : Rows.fnExactRingIdealRow.holds Try.pinned (OpenSpec.ofChange Rows.fnExactRingIdealSpec) :=
  OpenClaim.holds_of_wide 7 Try.f7 rfl rfl rfl rfl rfl rfl rfl ⟨rfl, rfl, rfl, rfl, rfl⟩ rfl rfl rfl rfl rfl named Try.func7 closed
    (of_decide_eq_true noInstance) noWrapper
    (fun os started H enc _ => lifted os started H enc)

/-- The statement. -/
theorem proved : Rows.FnExactRingIdealSaid := over
#print axioms proved
end Go.Proofs.Ytmhneigglmingaa.FnExactRingIdeal
