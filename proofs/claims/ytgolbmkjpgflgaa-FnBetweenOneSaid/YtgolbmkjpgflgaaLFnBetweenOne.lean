/- The law FnBetweenOne: three different positions have one direction. Proved for every input, no condition: the law's Go function returns true, and each argument reads afterwards as it read before. -/
import Derived.Test.YtgolbmkjpgflgaaSeat
import Derived.Test.YtgolbmkjpgflgaaCirc
import Derived.Test.YtgolbmkjpgflgaaHold
import Derived.Test.YtgolbmkjpgflgaaDraw2
import Derived.Test.YtgolbmkjpgflgaaPlainB
import Derived.WalkKit
import Derived.ProofKit
import Derived.OpenShut
import Derived.ShutString
import Derived.ChangeOld
import Derived.Below
namespace Go.Proofs.Ytgolbmkjpgflgaa.FnBetweenOne
open Go.ChangeShapes Go.WideShapes Go.ChangeAt Go.RowKit
open Go.ChangeMaps (open_string shut_string)
set_option linter.unusedVariables false
set_option maxHeartbeats 400000

theorem walk (A : Option Addr) (c : Nat) (xs : List Int) (w : World) (w0 : Arg .u8 w A c xs) : Calls Try.prog 14 #[.slice A xs.length c] w fun e w' => e = .returned (.bool true) ∧ Below w.heap.size w w' := by
  have HO := Lib.hid (drawBtw_any A c xs w w0)
  obtain ⟨hl, hc, -, -⟩ := w0
  unfold maxLen at hc
  by_cases hbig : 1048576 < xs.length
  · go_enter Try.func14, Try.ntmps14
    go_wp2
    go_ret
    exact ⟨rfl, Below.refl _ _⟩
  have hsm : xs.length ≤ 1048576 := by omega
  clear hbig hl hc
  go_enter Try.func14, Try.ntmps14
  go_wp2_with fail
  refine HO.out.mono ?_; rintro e w1 ⟨a, x, b, ⟨a0, a1⟩, ⟨b0, b1⟩, ⟨g0, g1⟩, rfl, hB⟩
  clear HO
  by_cases ha : pos a = true
  · skip
    by_cases hx : pos x = true
    · skip
      by_cases hb0 : pos b = true
      · skip
        by_cases h1 : a = x
        · subst h1
          go_wp2_with (first
              | (go_at_call 18; refine (cb_impl _ _ _ _).mono ?_; rintro e w' ⟨rfl, hb⟩; replace hB := below_next hB hb; clear hb)
              | (go_at_call 17; refine (cb_spec _ _ _ _).mono ?_; rintro e w' ⟨rfl, rfl⟩)
              | (go_at_call 31; refine (isPoint_any _ _).mono ?_; rintro e w' ⟨rfl, rfl⟩))
          go_ret
          exact ⟨rfl, hB⟩
        by_cases h2 : x = b
        · subst h2
          have h1' : (a == x) = false := by rw [beq_eq_false_iff_ne]; exact h1
          go_wp2_with (first
              | (go_at_call 18; refine (cb_impl _ _ _ _).mono ?_; rintro e w' ⟨rfl, hb⟩; replace hB := below_next hB hb; clear hb)
              | (go_at_call 17; refine (cb_spec _ _ _ _).mono ?_; rintro e w' ⟨rfl, rfl⟩)
              | (go_at_call 31; refine (isPoint_any _ _).mono ?_; rintro e w' ⟨rfl, rfl⟩))
          go_ret
          exact ⟨rfl, hB⟩
        by_cases h3 : a = b
        · subst h3
          have h1' : (a == x) = false := by rw [beq_eq_false_iff_ne]; exact h1
          have h2' : (x == a) = false := by rw [beq_eq_false_iff_ne]; exact h2
          go_wp2_with (first
              | (go_at_call 18; refine (cb_impl _ _ _ _).mono ?_; rintro e w' ⟨rfl, hb⟩; replace hB := below_next hB hb; clear hb)
              | (go_at_call 17; refine (cb_spec _ _ _ _).mono ?_; rintro e w' ⟨rfl, rfl⟩)
              | (go_at_call 31; refine (isPoint_any _ _).mono ?_; rintro e w' ⟨rfl, rfl⟩))
          go_ret
          exact ⟨rfl, hB⟩
        have h1' : (a == x) = false := by rw [beq_eq_false_iff_ne]; exact h1
        have h2' : (x == b) = false := by rw [beq_eq_false_iff_ne]; exact h2
        have h3' : (a == b) = false := by rw [beq_eq_false_iff_ne]; exact h3
        have g2 := Lib.hid (btw_other ha hx hb0 h1 h2 h3)
        have g3 := Lib.hid (btw_round ha hx hb0 h1 h2 h3)
        clear h1 h2 h3
        by_cases hv : btw a x b = true
        · have g4 : btw b x a = false := by rw [g2.out, hv]; rfl
          have g5 : btw x b a = true := by rw [g3.out, hv]
          go_wp2_with (first
              | (go_at_call 18; refine (cb_impl _ _ _ _).mono ?_; rintro e w' ⟨rfl, hb⟩; replace hB := below_next hB hb; clear hb)
              | (go_at_call 17; refine (cb_spec _ _ _ _).mono ?_; rintro e w' ⟨rfl, rfl⟩)
              | (go_at_call 31; refine (isPoint_any _ _).mono ?_; rintro e w' ⟨rfl, rfl⟩))
          go_ret
          exact ⟨rfl, hB⟩
        · have hv : btw a x b = false := by simpa using hv
          have g4 : btw b x a = true := by rw [g2.out, hv]; rfl
          have g5 : btw x b a = false := by rw [g3.out, hv]
          go_wp2_with (first
              | (go_at_call 18; refine (cb_impl _ _ _ _).mono ?_; rintro e w' ⟨rfl, hb⟩; replace hB := below_next hB hb; clear hb)
              | (go_at_call 17; refine (cb_spec _ _ _ _).mono ?_; rintro e w' ⟨rfl, rfl⟩)
              | (go_at_call 31; refine (isPoint_any _ _).mono ?_; rintro e w' ⟨rfl, rfl⟩))
          go_ret
          exact ⟨rfl, hB⟩
      · have hb0 : pos b = false := by simpa using hb0
        go_wp2_with (first
      | (go_at_call 18; refine (cb_impl _ _ _ _).mono ?_; rintro e w' ⟨rfl, hb⟩; replace hB := below_next hB hb; clear hb)
      | (go_at_call 17; refine (cb_spec _ _ _ _).mono ?_; rintro e w' ⟨rfl, rfl⟩)
      | (go_at_call 31; refine (isPoint_any _ _).mono ?_; rintro e w' ⟨rfl, rfl⟩))
        go_ret
        exact ⟨rfl, hB⟩
    · have hx : pos x = false := by simpa using hx
      go_wp2_with (first
      | (go_at_call 18; refine (cb_impl _ _ _ _).mono ?_; rintro e w' ⟨rfl, hb⟩; replace hB := below_next hB hb; clear hb)
      | (go_at_call 17; refine (cb_spec _ _ _ _).mono ?_; rintro e w' ⟨rfl, rfl⟩)
      | (go_at_call 31; refine (isPoint_any _ _).mono ?_; rintro e w' ⟨rfl, rfl⟩))
      go_ret
      exact ⟨rfl, hB⟩
  · have ha : pos a = false := by simpa using ha
    go_wp2_with (first
      | (go_at_call 18; refine (cb_impl _ _ _ _).mono ?_; rintro e w' ⟨rfl, hb⟩; replace hB := below_next hB hb; clear hb)
      | (go_at_call 17; refine (cb_spec _ _ _ _).mono ?_; rintro e w' ⟨rfl, rfl⟩)
      | (go_at_call 31; refine (isPoint_any _ _).mono ?_; rintro e w' ⟨rfl, rfl⟩))
    go_ret
    exact ⟨rfl, hB⟩

set_option maxRecDepth 100000 in
theorem lifted (os : Os) (started : os.Started) (H : Type) (enc : TypeId × Value → H) :
    ReturnsInHanded {} Try.checked os 14 .any (Rows.fnBetweenOneSpec.pre6 enc Try.prog Try.f14 Rows.fnBetweenOneRow.domain false) (Rows.fnBetweenOneSpec.post enc Try.prog Try.f14 false true false false) := by
  refine returnsInHanded_of_change (C := Try.checked) own started (by kernel_rfl) Try.func14
    (ChangeSpec.witness6 (enc := enc) (C := Try.checked) false ⟨#[], #[.slice none 0 0], []⟩ 8 (by kernel_rfl) (by kernel_rfl) (by kernel_rfl) (by kernel_rfl)) ?_
  intro W base args ds gs before hval0 hW hcnd _
  have hval : ∀ (j : Nat) t v, Try.f14.params[j]? = some t → args[j]? = some v → Value.okWide Try.prog W .any base t v := hval0
  have hW' := hW
  obtain ⟨p, q, hA0, hV, rfl, hfz, hnd⟩ := hW
  have hA : DataW.TrodAll enc Try.prog W 0 (fun _ => true) true Try.f14.params.toList args.toList ds p := hA0
  rw [Try.params14] at hA hval
  obtain ⟨v0, vs0, d0, ds0, p0, q0, hargs, rfl, rfl, h0, r0⟩ := trodAll_cons hA
  obtain ⟨rfl, rfl, rfl⟩ := trodAll_nil r0
  obtain rfl : args = #[v0] := by cases args; simp_all
  obtain ⟨rfl, rfl⟩ := trodVars_none hV
  obtain ⟨A0, len0, c0, rfl⟩ := okWide_slice Try.underlying30 (hval 0 30 v0 rfl rfl)
  have k0 := h0
  have lt0 : ∀ x ∈ p0, x.block < W.heap.size := by obtain ⟨m, hm⟩ := k0; exact DataW.trod_lt m _ _ _ hm
  obtain ⟨xs0, rfl, w0⟩ : ∃ xs : List Int, xs.length = len0 ∧ Arg .u8 W A0 c0 xs := by
    obtain ⟨fuel, hf⟩ := h0
    rcases open_ints Try.underlying30 Try.underlying5 (by kernel_rfl) hf with ⟨hcs, _⟩ | ⟨x, l, c, zs, hcs, _, hl, hm, hz, _, hcell, hwz⟩
    · simp [Value.cells] at hcs
      obtain ⟨rfl, rfl, rfl⟩ := hcs
      exact Arg.none_
    · simp [Value.cells] at hcs
      obtain ⟨rfl, rfl, rfl⟩ := hcs
      exact Arg.row hl hm (by simpa using hz) hcell hwz
  clear hA0 hval0
  refine (walk A0 c0 xs0 W w0).mono fun e W' ⟨he, bel⟩ => ?_
  subst he
  exact ⟨_, rfl, _, _, _, [], _, [], hW', trodAll_mk1 (shut_bool Try.underlying4 _), (trodAll_cons_mk (Below.trod laidOut (by kernel_rfl) (of_decide_eq_true (by kernel_rfl)) k0 bel lt0) trodAll_mk0), rfl, bel.frame _, fun h => by cases h⟩

theorem nm : Try.f14.name = Rows.fnBetweenOneRow.func := by kernel_rfl
theorem notMain : decide (Check.packageOf Rows.fnBetweenOneRow.func = "main") = false := by kernel_rfl
theorem noWrapper : Func.isWrapper Try.prog Try.f14 Rows.fnBetweenOneRow.wrapper Rows.fnBetweenOneRow.mainSum := by
  unfold Func.isWrapper; rw [nm, if_neg (of_decide_eq_false notMain)]; exact ⟨rfl, rfl⟩
theorem closed : joinedFacts Try.prog 14 Try.f14 Rows.fnBetweenOneSpec Rows.fnBetweenOneRow = true := by
  unfold joinedFacts
  exact (andI (andI (andI (andI (andI (andI (andI (andI (andI (andI (andI (andI (andI (andI (andI (andI (andI (andI (andI (andI (andI (andI (andI (andI (andI (andI (andI (andI (andI (andI (andI (by kernel_rfl) laidOut) rowed) (by kernel_rfl)) (by kernel_rfl)) (by kernel_rfl)) (by kernel_rfl)) (by kernel_rfl)) (by kernel_rfl)) (by kernel_rfl)) (by kernel_rfl)) (by kernel_rfl)) (by kernel_rfl)) (by kernel_rfl)) (by kernel_rfl)) (by kernel_rfl)) (by kernel_rfl)) (by kernel_rfl)) (by kernel_rfl)) (by kernel_rfl)) (by kernel_rfl)) (by kernel_rfl)) (by rw [plain_keys]; kernel_rfl)) (by kernel_rfl)) heard) mayEnter) (by rw [liftsFinal]; kernel_rfl)) (by rw [makeCut]; kernel_rfl)) (by kernel_rfl)) (by kernel_rfl)) (by kernel_rfl)) (by kernel_rfl))
theorem noInstance : decide (Func.isInstance Try.prog Try.f14 Rows.fnBetweenOneRow.origin Rows.fnBetweenOneRow.targs) = true := by kernel_rfl
theorem named : Try.prog.funcNamed Rows.fnBetweenOneRow.func = some 14 := by kernel_rfl
theorem over : Rows.fnBetweenOneRow.holds Try.pinned (OpenSpec.ofChange Rows.fnBetweenOneSpec) :=
  OpenClaim.holds_of_wide 14 Try.f14 rfl rfl rfl rfl rfl rfl rfl ⟨rfl, rfl, rfl, rfl, rfl⟩ rfl rfl rfl rfl rfl named Try.func14 closed
    (of_decide_eq_true noInstance) noWrapper
    (fun os started H enc _ => lifted os started H enc)

/-- The statement. -/
theorem proved : Rows.FnBetweenOneSaid := over
#print axioms proved
end Go.Proofs.Ytgolbmkjpgflgaa.FnBetweenOne
