/- The law FnBetweenTurn: turning the circle changes nothing. Proved for every input, no condition: the law's Go function returns true, and each argument reads afterwards as it read before. -/
import Derived.Test.YtdkcppbafpjpgaaSeat
import Derived.Test.YtdkcppbafpjpgaaCirc
import Derived.Test.YtdkcppbafpjpgaaHold
import Derived.Test.YtdkcppbafpjpgaaDraw2
import Derived.Test.YtdkcppbafpjpgaaPlainB
import Derived.WalkKit
import Derived.ProofKit
import Derived.OpenShut
import Derived.ShutString
import Derived.ChangeOld
import Derived.Below
namespace Go.Proofs.Ytdkcppbafpjpgaa.FnBetweenTurn
open Go.ChangeShapes Go.WideShapes Go.ChangeAt Go.RowKit
open Go.ChangeMaps (open_string shut_string)
set_option linter.unusedVariables false
set_option maxHeartbeats 400000

theorem walk (A : Option Addr) (c : Nat) (xs : List Int) (A' : Option Addr) (c' : Nat) (ys : List Int) (w : World) (w0 : Arg .u8 w A c xs) (w1 : Arg .u8 w A' c' ys) : Calls Try.prog 3 #[.slice A xs.length c, .slice A' ys.length c'] w fun e w' => e = .returned (.bool true) ∧ Below w.heap.size w w' := by
  have HO := Lib.hid (drawBtw_any A c xs w w0)
  obtain ⟨hl, hc, -, -⟩ := w0
  obtain ⟨hl', hc', -, -⟩ := w1
  unfold maxLen at hc hc'
  by_cases hbig : 1048576 < xs.length
  · go_enter Try.func3, Try.ntmps3
    go_wp2
    go_ret
    exact ⟨rfl, Below.refl _ _⟩
  by_cases hbig' : 1048576 < ys.length
  · have hsm : xs.length ≤ 1048576 := by omega
    go_enter Try.func3, Try.ntmps3
    go_wp2
    go_ret
    exact ⟨rfl, Below.refl _ _⟩
  have hsm : xs.length ≤ 1048576 := by omega
  have hsm' : ys.length ≤ 1048576 := by omega
  have hd0 : (0 : Int) ≤ (ys.length : Int) % 64 := by omega
  have hd1 : (ys.length : Int) % 64 < 64 := by omega
  clear hbig hl hc hbig' hl' hc'
  go_enter Try.func3, Try.ntmps3
  go_wp2_with fail
  refine HO.out.mono ?_; rintro e w1 ⟨a, x, b, ⟨a0, a1⟩, ⟨b0, b1⟩, ⟨g0, g1⟩, rfl, hB⟩
  clear HO
  by_cases ha : pos a = true
  · skip
    by_cases hx : pos x = true
    · skip
      by_cases hb0 : pos b = true
      · skip
        have f1 := btw_turn (d := (ys.length : Int)) ha hx hb0
        have pa := (pos_iff.1 ha).1
        have px := (pos_iff.1 hx).1
        have pb := (pos_iff.1 hb0).1
        go_wp2_with (first
              | (go_at_call 11; refine (cb_impl _ _ _ _).mono ?_; rintro e w' ⟨rfl, hb⟩; replace hB := below_next hB hb; clear hb)
              | (go_at_call 12; refine (cb_spec _ _ _ _).mono ?_; rintro e w' ⟨rfl, rfl⟩)
              | (go_at_call 13; refine (isPoint_any _ _).mono ?_; rintro e w' ⟨rfl, rfl⟩))
        go_ret
        exact ⟨rfl, hB⟩
      · have hb0 : pos b = false := by simpa using hb0
        go_wp2_with (first
      | (go_at_call 11; refine (cb_impl _ _ _ _).mono ?_; rintro e w' ⟨rfl, hb⟩; replace hB := below_next hB hb; clear hb)
      | (go_at_call 12; refine (cb_spec _ _ _ _).mono ?_; rintro e w' ⟨rfl, rfl⟩)
      | (go_at_call 13; refine (isPoint_any _ _).mono ?_; rintro e w' ⟨rfl, rfl⟩))
        go_ret
        exact ⟨rfl, hB⟩
    · have hx : pos x = false := by simpa using hx
      go_wp2_with (first
      | (go_at_call 11; refine (cb_impl _ _ _ _).mono ?_; rintro e w' ⟨rfl, hb⟩; replace hB := below_next hB hb; clear hb)
      | (go_at_call 12; refine (cb_spec _ _ _ _).mono ?_; rintro e w' ⟨rfl, rfl⟩)
      | (go_at_call 13; refine (isPoint_any _ _).mono ?_; rintro e w' ⟨rfl, rfl⟩))
      go_ret
      exact ⟨rfl, hB⟩
  · have ha : pos a = false := by simpa using ha
    go_wp2_with (first
      | (go_at_call 11; refine (cb_impl _ _ _ _).mono ?_; rintro e w' ⟨rfl, hb⟩; replace hB := below_next hB hb; clear hb)
      | (go_at_call 12; refine (cb_spec _ _ _ _).mono ?_; rintro e w' ⟨rfl, rfl⟩)
      | (go_at_call 13; refine (isPoint_any _ _).mono ?_; rintro e w' ⟨rfl, rfl⟩))
    go_ret
    exact ⟨rfl, hB⟩

set_option maxRecDepth 100000 in
theorem lifted (os : Os) (started : os.Started) (H : Type) (enc : TypeId × Value → H) :
    ReturnsInHanded {} Try.checked os 3 .any (Rows.fnBetweenTurnSpec.pre6 enc Try.prog Try.f3 Rows.fnBetweenTurnRow.domain false) (Rows.fnBetweenTurnSpec.post enc Try.prog Try.f3 false true false false) := by
  refine returnsInHanded_of_change (C := Try.checked) own started (by kernel_rfl) Try.func3
    (ChangeSpec.witness6 (enc := enc) (C := Try.checked) false ⟨#[], #[.slice none 0 0, .slice none 0 0], []⟩ 8 (by kernel_rfl) (by kernel_rfl) (by kernel_rfl) (by kernel_rfl)) ?_
  intro W base args ds gs before hval0 hW hcnd _
  have hval : ∀ (j : Nat) t v, Try.f3.params[j]? = some t → args[j]? = some v → Value.okWide Try.prog W .any base t v := hval0
  have hW' := hW
  obtain ⟨p, q, hA0, hV, rfl, hfz, hnd⟩ := hW
  have hA : DataW.TrodAll enc Try.prog W 0 (fun _ => true) true Try.f3.params.toList args.toList ds p := hA0
  rw [Try.params3] at hA hval
  obtain ⟨v0, vs0, d0, ds0, p0, q0, hargs, rfl, rfl, h0, r0⟩ := trodAll_cons hA
  obtain ⟨v1, vs1, d1, ds1, p1, q1, rfl, rfl, rfl, h1, r1⟩ := trodAll_cons r0
  obtain ⟨rfl, rfl, rfl⟩ := trodAll_nil r1
  obtain rfl : args = #[v0, v1] := by cases args; simp_all
  obtain ⟨rfl, rfl⟩ := trodVars_none hV
  obtain ⟨A0, len0, c0, rfl⟩ := okWide_slice Try.underlying22 (hval 0 22 v0 rfl rfl)
  have k0 := h0
  have lt0 : ∀ x ∈ p0, x.block < W.heap.size := by obtain ⟨m, hm⟩ := k0; exact DataW.trod_lt m _ _ _ hm
  obtain ⟨xs0, rfl, w0⟩ : ∃ xs : List Int, xs.length = len0 ∧ Arg .u8 W A0 c0 xs := by
    obtain ⟨fuel, hf⟩ := h0
    rcases open_ints Try.underlying22 Try.underlying5 (by kernel_rfl) hf with ⟨hcs, _⟩ | ⟨x, l, c, zs, hcs, _, hl, hm, hz, _, hcell, hwz⟩
    · simp [Value.cells] at hcs
      obtain ⟨rfl, rfl, rfl⟩ := hcs
      exact Arg.none_
    · simp [Value.cells] at hcs
      obtain ⟨rfl, rfl, rfl⟩ := hcs
      exact Arg.row hl hm (by simpa using hz) hcell hwz
  obtain ⟨A1, len1, c1, rfl⟩ := okWide_slice Try.underlying22 (hval 1 22 v1 rfl rfl)
  have k1 := h1
  have lt1 : ∀ x ∈ p1, x.block < W.heap.size := by obtain ⟨m, hm⟩ := k1; exact DataW.trod_lt m _ _ _ hm
  obtain ⟨xs1, rfl, w1⟩ : ∃ xs : List Int, xs.length = len1 ∧ Arg .u8 W A1 c1 xs := by
    obtain ⟨fuel, hf⟩ := h1
    rcases open_ints Try.underlying22 Try.underlying5 (by kernel_rfl) hf with ⟨hcs, _⟩ | ⟨x, l, c, zs, hcs, _, hl, hm, hz, _, hcell, hwz⟩
    · simp [Value.cells] at hcs
      obtain ⟨rfl, rfl, rfl⟩ := hcs
      exact Arg.none_
    · simp [Value.cells] at hcs
      obtain ⟨rfl, rfl, rfl⟩ := hcs
      exact Arg.row hl hm (by simpa using hz) hcell hwz
  clear hA0 hval0
  refine (walk A0 c0 xs0 A1 c1 xs1 W w0 w1).mono fun e W' ⟨he, bel⟩ => ?_
  subst he
  exact ⟨_, rfl, _, _, _, [], _, [], hW', trodAll_mk1 (shut_bool Try.underlying4 _), (trodAll_cons_mk (Below.trod laidOut (by kernel_rfl) (of_decide_eq_true (by kernel_rfl)) k0 bel lt0) (trodAll_cons_mk (Below.trod laidOut (by kernel_rfl) (of_decide_eq_true (by kernel_rfl)) k1 bel lt1) trodAll_mk0)), rfl, bel.frame _, fun h => by cases h⟩

theorem nm : Try.f3.name = Rows.fnBetweenTurnRow.func := by kernel_rfl
theorem notMain : decide (Check.packageOf Rows.fnBetweenTurnRow.func = "main") = false := by kernel_rfl
theorem noWrapper : Func.isWrapper Try.prog Try.f3 Rows.fnBetweenTurnRow.wrapper Rows.fnBetweenTurnRow.mainSum := by
  unfold Func.isWrapper; rw [nm, if_neg (of_decide_eq_false notMain)]; exact ⟨rfl, rfl⟩
theorem closed : joinedFacts Try.prog 3 Try.f3 Rows.fnBetweenTurnSpec Rows.fnBetweenTurnRow = true := by
  unfold joinedFacts
  exact (andI (andI (andI (andI (andI (andI (andI (andI (andI (andI (andI (andI (andI (andI (andI (andI (andI (andI (andI (andI (andI (andI (andI (andI (andI (andI (andI (andI (andI (andI (andI (by kernel_rfl) laidOut) rowed) (by kernel_rfl)) (by kernel_rfl)) (by kernel_rfl)) (by kernel_rfl)) (by kernel_rfl)) (by kernel_rfl)) (by kernel_rfl)) (by kernel_rfl)) (by kernel_rfl)) (by kernel_rfl)) (by kernel_rfl)) (by kernel_rfl)) (by kernel_rfl)) (by kernel_rfl)) (by kernel_rfl)) (by kernel_rfl)) (by kernel_rfl)) (by kernel_rfl)) (by kernel_rfl)) (by rw [plain_keys]; kernel_rfl)) (by kernel_rfl)) heard) mayEnter) (by rw [liftsFinal]; kernel_rfl)) (by rw [makeCut]; kernel_rfl)) (by kernel_rfl)) (by kernel_rfl)) (by kernel_rfl)) (by kernel_rfl))
theorem noInstance : decide (Func.isInstance Try.prog Try.f3 Rows.fnBetweenTurnRow.origin Rows.fnBetweenTurnRow.targs) = true := by kernel_rfl
theorem named : Try.prog.funcNamed Rows.fnBetweenTurnRow.func = some 3 := by kernel_rfl
theorem over : Rows.fnBetweenTurnRow.holds Try.pinned (OpenSpec.ofChange Rows.fnBetweenTurnSpec) :=
  OpenClaim.holds_of_wide 3 Try.f3 rfl rfl rfl rfl rfl rfl rfl ⟨rfl, rfl, rfl, rfl, rfl⟩ rfl rfl rfl rfl rfl named Try.func3 closed
    (of_decide_eq_true noInstance) noWrapper
    (fun os started H enc _ => lifted os started H enc)

/-- The statement. -/
theorem proved : Rows.FnBetweenTurnSaid := over
#print axioms proved
end Go.Proofs.Ytdkcppbafpjpgaa.FnBetweenTurn
