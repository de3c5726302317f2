/- The law FnExactNodesBefore: NodesBefore returns what the reference returns, and leaves its argument as it was. Proved for every input, no condition: the law's Go function returns true, and each argument reads afterwards as it read before. -/
import Derived.Test.YtgolbmkjpgflgaaSeat
import Derived.Test.YtgolbmkjpgflgaaNext
import Derived.Test.YtgolbmkjpgflgaaInts
import Derived.WalkKit
import Derived.ProofKit
import Derived.OpenShut
import Derived.ShutString
import Derived.ChangeOld
import Derived.Below
namespace Go.Proofs.Ytgolbmkjpgflgaa.FnExactNodesBefore
open Go.ChangeShapes Go.WideShapes Go.ChangeAt Go.RowKit
open Go.ChangeMaps (open_string shut_string)
set_option linter.unusedVariables false
set_option maxHeartbeats 400000

theorem walk (A : Option Addr) (c : Nat) (xs : List Int) (key : Int) (w : World) (w0 : Arg .i64 w A c xs) (w1 : (Lit.int .i64 key).wf = true) : Calls Try.prog 10 #[.slice A xs.length c, .int .i64 key] w fun e w' => e = .returned (.bool true) ∧ Below w.heap.size w w' := by
  obtain ⟨hl, hc, hn, -⟩ := w0
  clear w1
  by_cases hbig : 1048576 < xs.length
  · clear hn
    unfold maxLen at hc
    go_enter Try.func10, Try.ntmps10
    go_wp2
    go_ret
    exact ⟨rfl, Below.refl _ _⟩
  · have hlen : xs.length ≤ 1048576 := by omega
    have hmax : xs.length ≤ maxLen := by unfold maxLen; omega
    have hsm : ¬ (1048576 : Int) < (xs.length : Int) := by omega
    have C1 := fun (w1 : World) (h1 : Below w.heap.size w w1) => Lib.hid (toIntS_any w.heap.size A c xs hlen w1 h1.size (hn.below h1))
    have C2 := fun (w1 : World) (B : Nat) (A' : Option Addr) (h1 : NumsAt .i64 w1 B A' xs) => Lib.hid (nbefore_spec B A' xs.length xs key hmax w1 h1)
    have C3 := fun (w1 : World) (B : Nat) (A' : Option Addr) (h1 : NumsAt .i64 w1 B A' xs) => Lib.hid (nbefore_impl B A' xs.length xs key hmax w1 h1)
    have C4 := fun (w1 : World) (B : Nat) (A' A'' : Option Addr) (h1 : NumsAt .i64 w1 B A' xs) (h2 : NumsAt .i64 w1 B A'' xs) => Lib.hid (eqIntS_any B A' A'' xs.length xs.length xs xs hmax hmax w1 h1 h2)
    clear hn hbig hmax
    have hc' : xs.length ≤ 1048576 := hlen
    clear hl hc
    go_enter Try.func10, Try.ntmps10
    go_wp2_with fail
    refine ((C1 w (Below.refl _ _)).out).mono ?_; rintro e w1 ⟨rfl, ho1, hb1⟩
    go_wp2_with fail
    refine ((C2 w1 _ _ ho1.nums).out).mono ?_; rintro e w2 ⟨rfl, hb2⟩
    skip
    have hB2 := below_next hb1 hb2
    go_wp2_with fail
    refine ((C1 w2 hB2).out).mono ?_; rintro e w3 ⟨rfl, ho3, hb3⟩
    have hB3 := below_next hB2 hb3
    go_wp2_with fail
    refine ((C3 w3 _ _ ho3.nums).out).mono ?_; rintro e w4 ⟨rfl, hw4⟩
    subst hw4
    go_wp2_with fail
    refine ((C1 w3 hB3).out).mono ?_; rintro e w5 ⟨rfl, ho5, hb5⟩
    have hB5 := below_next hB3 hb5
    go_wp2_with fail
    refine ((C4 w5 w5.heap.size _ _ ((ho3.below hb5 (Nat.le_refl _)).nums) ho5.nums).out).mono ?_; rintro e w6 ⟨rfl, hb6⟩
    have hB6 := below_next hB5 hb6
    go_wp2
    go_ret
    exact ⟨rfl, hB6⟩

set_option maxRecDepth 100000 in
theorem lifted (os : Os) (started : os.Started) (H : Type) (enc : TypeId × Value → H) :
    ReturnsInHanded {} Try.checked os 10 .any (Rows.fnExactNodesBeforeSpec.pre6 enc Try.prog Try.f10 Rows.fnExactNodesBeforeRow.domain false) (Rows.fnExactNodesBeforeSpec.post enc Try.prog Try.f10 false true false false) := by
  refine returnsInHanded_of_change (C := Try.checked) own started (by kernel_rfl) Try.func10
    (ChangeSpec.witness6 (enc := enc) (C := Try.checked) false ⟨#[], #[.slice none 0 0, .int .i64 0], []⟩ 8 (by kernel_rfl) (by kernel_rfl) (by kernel_rfl) (by kernel_rfl)) ?_
  intro W base args ds gs before hval0 hW hcnd _
  have hval : ∀ (j : Nat) t v, Try.f10.params[j]? = some t → args[j]? = some v → Value.okWide Try.prog W .any base t v := hval0
  have hW' := hW
  obtain ⟨p, q, hA0, hV, rfl, hfz, hnd⟩ := hW
  have hA : DataW.TrodAll enc Try.prog W 0 (fun _ => true) true Try.f10.params.toList args.toList ds p := hA0
  rw [Try.params10] at hA hval
  obtain ⟨v0, vs0, d0, ds0, p0, q0, hargs, rfl, rfl, h0, r0⟩ := trodAll_cons hA
  obtain ⟨v1, vs1, d1, ds1, p1, q1, rfl, rfl, rfl, h1, r1⟩ := trodAll_cons r0
  obtain ⟨rfl, rfl, rfl⟩ := trodAll_nil r1
  obtain rfl : args = #[v0, v1] := by cases args; simp_all
  obtain ⟨rfl, rfl⟩ := trodVars_none hV
  obtain ⟨A0, len0, c0, rfl⟩ := okWide_slice Try.underlying26 (hval 0 26 v0 rfl rfl)
  have k0 := h0
  have lt0 : ∀ x ∈ p0, x.block < W.heap.size := by obtain ⟨m, hm⟩ := k0; exact DataW.trod_lt m _ _ _ hm
  obtain ⟨xs0, rfl, w0⟩ : ∃ xs : List Int, xs.length = len0 ∧ Arg .i64 W A0 c0 xs := by
    obtain ⟨fuel, hf⟩ := h0
    rcases open_ints Try.underlying26 Try.underlying3 (by kernel_rfl) hf with ⟨hcs, _⟩ | ⟨x, l, c, zs, hcs, _, hl, hm, hz, _, hcell, hwz⟩
    · simp [Value.cells] at hcs
      obtain ⟨rfl, rfl, rfl⟩ := hcs
      exact Arg.none_
    · simp [Value.cells] at hcs
      obtain ⟨rfl, rfl, rfl⟩ := hcs
      exact Arg.row hl hm (by simpa using hz) hcell hwz
  obtain ⟨a1, rfl, rfl, rfl, w1⟩ := open_int Try.underlying3 (hval 1 3 v1 rfl rfl) h1
  clear hA0 hval0
  refine (walk A0 c0 xs0 a1 W w0 w1).mono fun e W' ⟨he, bel⟩ => ?_
  subst he
  exact ⟨_, rfl, _, _, _, [], _, [], hW', trodAll_mk1 (shut_bool Try.underlying4 _), (trodAll_cons_mk (Below.trod laidOut (by kernel_rfl) (of_decide_eq_true (by kernel_rfl)) k0 bel lt0) (trodAll_cons_mk (shut_int Try.underlying3 w1) trodAll_mk0)), rfl, bel.frame _, fun h => by cases h⟩

theorem nm : Try.f10.name = Rows.fnExactNodesBeforeRow.func := by kernel_rfl
theorem notMain : decide (Check.packageOf Rows.fnExactNodesBeforeRow.func = "main") = false := by kernel_rfl
theorem noWrapper : Func.isWrapper Try.prog Try.f10 Rows.fnExactNodesBeforeRow.wrapper Rows.fnExactNodesBeforeRow.mainSum := by
  unfold Func.isWrapper; rw [nm, if_neg (of_decide_eq_false notMain)]; exact ⟨rfl, rfl⟩
theorem closed : joinedFacts Try.prog 10 Try.f10 Rows.fnExactNodesBeforeSpec Rows.fnExactNodesBeforeRow = true := by
  unfold joinedFacts
  exact (andI (andI (andI (andI (andI (andI (andI (andI (andI (andI (andI (andI (andI (andI (andI (andI (andI (andI (andI (andI (andI (andI (andI (andI (andI (andI (andI (andI (andI (andI (andI (by kernel_rfl) laidOut) rowed) (by kernel_rfl)) (by kernel_rfl)) (by kernel_rfl)) (by kernel_rfl)) (by kernel_rfl)) (by kernel_rfl)) (by kernel_rfl)) (by kernel_rfl)) (by kernel_rfl)) (by kernel_rfl)) (by kernel_rfl)) (by kernel_rfl)) (by kernel_rfl)) (by kernel_rfl)) (by kernel_rfl)) (by kernel_rfl)) (by kernel_rfl)) (by kernel_rfl)) (by kernel_rfl)) (by rw [plain_keys]; kernel_rfl)) (by kernel_rfl)) heard) mayEnter) (by rw [liftsFinal]; kernel_rfl)) (by rw [makeCut]; kernel_rfl)) (by kernel_rfl)) (by kernel_rfl)) (by kernel_rfl)) (by kernel_rfl))
theorem noInstance : decide (Func.isInstance Try.prog Try.f10 Rows.fnExactNodesBeforeRow.origin Rows.fnExactNodesBeforeRow.targs) = true := by kernel_rfl
theorem named : Try.prog.funcNamed Rows.fnExactNodesBeforeRow.func = some 10 := by kernel_rfl
theorem over : Rows.fnExactNodesBeforeRow.holds Try.pinned (OpenSpec.ofChange Rows.fnExactNodesBeforeSpec) :=
  OpenClaim.holds_of_wide 10 Try.f10 rfl rfl rfl rfl rfl rfl rfl ⟨rfl, rfl, rfl, rfl, rfl⟩ rfl rfl rfl rfl rfl named Try.func10 closed
    (of_decide_eq_true noInstance) noWrapper
    (fun os started H enc _ => lifted os started H enc)

/-- The statement. -/
theorem proved : Rows.FnExactNodesBeforeSaid := over
#print axioms proved
end Go.Proofs.Ytgolbmkjpgflgaa.FnExactNodesBefore
