/- The law FnHoldsCount: a range has as many keys as its length. Proved for every input, no condition: the law's Go function returns true, and each argument reads afterwards as it read before. -/
import Derived.Test.YtdkcppbafpjpgaaSeat
import Derived.Test.YtdkcppbafpjpgaaCirc
import Derived.Test.YtdkcppbafpjpgaaHold
import Derived.Test.YtdkcppbafpjpgaaDraw2
import Derived.Test.YtdkcppbafpjpgaaPlainB
import Derived.WalkKit
import Derived.ProofKit
import Derived.OpenShut
import Derived.ShutString
import Derived.ChangeOld
import Derived.Below
namespace Go.Proofs.Ytdkcppbafpjpgaa.FnHoldsCount
open Go.ChangeShapes Go.WideShapes Go.ChangeAt Go.RowKit
open Go.ChangeMaps (open_string shut_string)
set_option linter.unusedVariables false
set_option maxHeartbeats 400000

theorem cast_le64 (a b : Int) (k : Nat) (hk : k ≤ 64) : (0 : Int) ≤ (cntTo a b k : Int) ∧ (cntTo a b k : Int) ≤ 64 := by
  have := cntTo_le a b k; omega
theorem walk (A : Option Addr) (c : Nat) (xs : List Int) (w : World) (w0 : Arg .u8 w A c xs) : Calls Try.prog 4 #[.slice A xs.length c] w fun e w' => e = .returned (.bool true) ∧ Below w.heap.size w w' := by
  have HO := Lib.hid (drawHolds_any A c xs w w0)
  obtain ⟨hl, hc, -, -⟩ := w0
  unfold maxLen at hc
  by_cases hbig : 1048576 < xs.length
  · go_enter Try.func4, Try.ntmps4
    go_wp2
    go_ret
    exact ⟨rfl, Below.refl _ _⟩
  have hsm : xs.length ≤ 1048576 := by omega
  clear hbig hl hc
  go_enter Try.func4, Try.ntmps4
  go_wp2_with fail
  refine HO.out.mono ?_; rintro e w1 ⟨a, b, x, ⟨a0, a1⟩, ⟨b0, b1⟩, ⟨g0, g1⟩, rfl, hB⟩
  clear HO
  by_cases ha : pos a = true
  · by_cases hd : pos b = true
    · have hn := Lib.hid (cnt_all ha hd)
      go_wp2_with (first
      | (go_at_call 15; refine (ch_impl _ _ _ _).mono ?_; rintro e w' ⟨rfl, hb⟩; replace hB := below_next hB hb; clear hb)
      | (go_at_call 16; refine (ch_spec _ _ _ _).mono ?_; rintro e w' ⟨rfl, rfl⟩)
      | (go_at_call 13; refine (isPoint_any _ _).mono ?_; rintro e w' ⟨rfl, rfl⟩))
      go_loopw [8, 9] (fun n k wr => ∃ j : Nat, j ≤ 64 ∧ k = .int .i64 j ∧ n = .int .i64 (cntTo a b j) ∧ Below w.heap.size w wr) (fun _ k _ => 64 - (intOf k).toNat)
      case atStart => exact ⟨0, by omega, rfl, rfl, hB⟩
      case round =>
        obtain ⟨j, hj, rfl, rfl, hB'⟩ := hrel
        clear hB
        have hB := hB'
        clear hB'
        by_cases hlt : j < 64
        · obtain ⟨k0, k1⟩ := cast_le64 a b j (by omega)
          have HS := Lib.hid (cntTo_succ a b j)
          cases hv : hld a b (j : Int)
          all_goals
            go_wp2_with (first
      | (go_at_call 15; refine (ch_impl _ _ _ _).mono ?_; rintro e w' ⟨rfl, hb⟩; replace hB := below_next hB hb; clear hb)
      | (go_at_call 16; refine (ch_spec _ _ _ _).mono ?_; rintro e w' ⟨rfl, rfl⟩)
      | (go_at_call 13; refine (isPoint_any _ _).mono ?_; rintro e w' ⟨rfl, rfl⟩))
            go_roundw
            case rel => exact ⟨j + 1, by omega, by go_num, by rw [HS.out, hv]; go_num, hB⟩
            case measure => simp [intOf]; omega
        · have hj64 : j = 64 := by omega
          subst hj64
          by_cases hab : a = b
          · subst hab
            have hn' := hn.out
            rw [if_pos rfl] at hn'
            clear ha hd hn
            go_wp2_with (first
      | (go_at_call 15; refine (ch_impl _ _ _ _).mono ?_; rintro e w' ⟨rfl, hb⟩; replace hB := below_next hB hb; clear hb)
      | (go_at_call 16; refine (ch_spec _ _ _ _).mono ?_; rintro e w' ⟨rfl, rfl⟩)
      | (go_at_call 13; refine (isPoint_any _ _).mono ?_; rintro e w' ⟨rfl, rfl⟩))
            go_ret
            exact ⟨rfl, hB⟩
          · have hab' : (a == b) = false := by rw [beq_eq_false_iff_ne]; exact hab
            have hn' := hn.out
            rw [if_neg hab] at hn'
            clear ha hd hn hab
            go_wp2_with (go_at_call 17; refine (cd_impl _ _ _).mono ?_; rintro e w' ⟨rfl, hb⟩; replace hB := below_next hB hb; clear hb)
            go_ret
            exact ⟨rfl, hB⟩
    · have hd : pos b = false := by simpa using hd
      go_wp2_with (first
      | (go_at_call 15; refine (ch_impl _ _ _ _).mono ?_; rintro e w' ⟨rfl, hb⟩; replace hB := below_next hB hb; clear hb)
      | (go_at_call 16; refine (ch_spec _ _ _ _).mono ?_; rintro e w' ⟨rfl, rfl⟩)
      | (go_at_call 13; refine (isPoint_any _ _).mono ?_; rintro e w' ⟨rfl, rfl⟩))
      go_ret
      exact ⟨rfl, hB⟩
  · have ha : pos a = false := by simpa using ha
    go_wp2_with (first
      | (go_at_call 15; refine (ch_impl _ _ _ _).mono ?_; rintro e w' ⟨rfl, hb⟩; replace hB := below_next hB hb; clear hb)
      | (go_at_call 16; refine (ch_spec _ _ _ _).mono ?_; rintro e w' ⟨rfl, rfl⟩)
      | (go_at_call 13; refine (isPoint_any _ _).mono ?_; rintro e w' ⟨rfl, rfl⟩))
    go_ret
    exact ⟨rfl, hB⟩

set_option maxRecDepth 100000 in
theorem lifted (os : Os) (started : os.Started) (H : Type) (enc : TypeId × Value → H) :
    ReturnsInHanded {} Try.checked os 4 .any (Rows.fnHoldsCountSpec.pre6 enc Try.prog Try.f4 Rows.fnHoldsCountRow.domain false) (Rows.fnHoldsCountSpec.post enc Try.prog Try.f4 false true false false) := by
  refine returnsInHanded_of_change (C := Try.checked) own started (by kernel_rfl) Try.func4
    (ChangeSpec.witness6 (enc := enc) (C := Try.checked) false ⟨#[], #[.slice none 0 0], []⟩ 8 (by kernel_rfl) (by kernel_rfl) (by kernel_rfl) (by kernel_rfl)) ?_
  intro W base args ds gs before hval0 hW hcnd _
  have hval : ∀ (j : Nat) t v, Try.f4.params[j]? = some t → args[j]? = some v → Value.okWide Try.prog W .any base t v := hval0
  have hW' := hW
  obtain ⟨p, q, hA0, hV, rfl, hfz, hnd⟩ := hW
  have hA : DataW.TrodAll enc Try.prog W 0 (fun _ => true) true Try.f4.params.toList args.toList ds p := hA0
  rw [Try.params4] at hA hval
  obtain ⟨v0, vs0, d0, ds0, p0, q0, hargs, rfl, rfl, h0, r0⟩ := trodAll_cons hA
  obtain ⟨rfl, rfl, rfl⟩ := trodAll_nil r0
  obtain rfl : args = #[v0] := by cases args; simp_all
  obtain ⟨rfl, rfl⟩ := trodVars_none hV
  obtain ⟨A0, len0, c0, rfl⟩ := okWide_slice Try.underlying22 (hval 0 22 v0 rfl rfl)
  have k0 := h0
  have lt0 : ∀ x ∈ p0, x.block < W.heap.size := by obtain ⟨m, hm⟩ := k0; exact DataW.trod_lt m _ _ _ hm
  obtain ⟨xs0, rfl, w0⟩ : ∃ xs : List Int, xs.length = len0 ∧ Arg .u8 W A0 c0 xs := by
    obtain ⟨fuel, hf⟩ := h0
    rcases open_ints Try.underlying22 Try.underlying5 (by kernel_rfl) hf with ⟨hcs, _⟩ | ⟨x, l, c, zs, hcs, _, hl, hm, hz, _, hcell, hwz⟩
    · simp [Value.cells] at hcs
      obtain ⟨rfl, rfl, rfl⟩ := hcs
      exact Arg.none_
    · simp [Value.cells] at hcs
      obtain ⟨rfl, rfl, rfl⟩ := hcs
      exact Arg.row hl hm (by simpa using hz) hcell hwz
  clear hA0 hval0
  refine (walk A0 c0 xs0 W w0).mono fun e W' ⟨he, bel⟩ => ?_
  subst he
  exact ⟨_, rfl, _, _, _, [], _, [], hW', trodAll_mk1 (shut_bool Try.underlying4 _), (trodAll_cons_mk (Below.trod laidOut (by kernel_rfl) (of_decide_eq_true (by kernel_rfl)) k0 bel lt0) trodAll_mk0), rfl, bel.frame _, fun h => by cases h⟩

theorem nm : Try.f4.name = Rows.fnHoldsCountRow.func := by kernel_rfl
theorem notMain : decide (Check.packageOf Rows.fnHoldsCountRow.func = "main") = false := by kernel_rfl
theorem noWrapper : Func.isWrapper Try.prog Try.f4 Rows.fnHoldsCountRow.wrapper Rows.fnHoldsCountRow.mainSum := by
  unfold Func.isWrapper; rw [nm, if_neg (of_decide_eq_false notMain)]; exact ⟨rfl, rfl⟩
theorem closed : joinedFacts Try.prog 4 Try.f4 Rows.fnHoldsCountSpec Rows.fnHoldsCountRow = true := by
  unfold joinedFacts
  exact (andI (andI (andI (andI (andI (andI (andI (andI (andI (andI (andI (andI (andI (andI (andI (andI (andI (andI (andI (andI (andI (andI (andI (andI (andI (andI (andI (andI (andI (andI (andI (by kernel_rfl) laidOut) rowed) (by kernel_rfl)) (by kernel_rfl)) (by kernel_rfl)) (by kernel_rfl)) (by kernel_rfl)) (by kernel_rfl)) (by kernel_rfl)) (by kernel_rfl)) (by kernel_rfl)) (by kernel_rfl)) (by kernel_rfl)) (by kernel_rfl)) (by kernel_rfl)) (by kernel_rfl)) (by kernel_rfl)) (by kernel_rfl)) (by kernel_rfl)) (by kernel_rfl)) (by kernel_rfl)) (by rw [plain_keys]; kernel_rfl)) (by kernel_rfl)) heard) mayEnter) (by rw [liftsFinal]; kernel_rfl)) (by rw [makeCut]; kernel_rfl)) (by kernel_rfl)) (by kernel_rfl)) (by kernel_rfl)) (by kernel_rfl))
theorem noInstance : decide (Func.isInstance Try.prog Try.f4 Rows.fnHoldsCountRow.origin Rows.fnHoldsCountRow.targs) = true := by kernel_rfl
theorem named : Try.prog.funcNamed Rows.fnHoldsCountRow.func = some 4 := by kernel_rfl
theorem over : Rows.fnHoldsCountRow.holds Try.pinned (OpenSpec.ofChange Rows.fnHoldsCountSpec) :=
  OpenClaim.holds_of_wide 4 Try.f4 rfl rfl rfl rfl rfl rfl rfl ⟨rfl, rfl, rfl, rfl, rfl⟩ rfl rfl rfl rfl rfl named Try.func4 closed
    (of_decide_eq_true noInstance) noWrapper
    (fun os started H enc _ => lifted os started H enc)

/-- The statement. -/
theorem proved : Rows.FnHoldsCountSaid := over
#print axioms proved
end Go.Proofs.Ytdkcppbafpjpgaa.FnHoldsCount
