/- The law FnNodesBefore: no node is between a position and the one before it. Proved for every input, no condition: the law's Go function returns true, and each argument reads afterwards as it read before. -/
import Derived.Test.YtdkcppbafpjpgaaSeat
import Derived.Test.YtdkcppbafpjpgaaCirc
import Derived.Test.YtdkcppbafpjpgaaHold
import Derived.Test.YtdkcppbafpjpgaaNext
import Derived.Test.YtdkcppbafpjpgaaInts
import Derived.Test.YtdkcppbafpjpgaaDraw4
import Derived.Test.YtdkcppbafpjpgaaPlainM
import Derived.WalkKit
import Derived.ProofKit
import Derived.OpenShut
import Derived.ShutString
import Derived.ChangeOld
import Derived.Below
namespace Go.Proofs.Ytdkcppbafpjpgaa.FnNodesBefore
open Go.ChangeShapes Go.WideShapes Go.ChangeAt Go.RowKit
open Go.ChangeMaps (open_string shut_string)
set_option linter.unusedVariables false
set_option maxHeartbeats 400000

set_option maxHeartbeats 2000000 in
theorem walk (A : Option Addr) (c : Nat) (xs : List Int) (w : World) (w0 : Arg .u8 w A c xs) : Calls Try.prog 8 #[.slice A xs.length c] w fun e w' => e = .returned (.bool true) ∧ Below w.heap.size w w' := by
  have HO := Lib.hid (drawBefore_any A c xs w w0)
  obtain ⟨hl, hc, -, -⟩ := w0
  unfold maxLen at hc
  by_cases hbig : 1048576 < xs.length
  · go_enter Try.func8, Try.ntmps8
    go_wp2
    go_ret
    exact ⟨rfl, Below.refl _ _⟩
  have hsm : xs.length ≤ 1048576 := by omega
  clear hbig hl hc
  go_enter Try.func8, Try.ntmps8
  go_wp2_with fail
  refine HO.out.mono ?_; rintro e w1 ⟨A', c', ys, key, rfl, ho, hy20, hyb, key0, key1, hB⟩
  clear HO
  have hmax : ys.length ≤ maxLen := by unfold maxLen; omega
  have H1 := Lib.hid (nbefore_impl w1.heap.size A' c' ys key hmax w1 ho.nums)
  have H2 := Lib.hid (nbefore_spec w1.heap.size A' c' ys key hmax w1 ho.nums)
  by_cases hv : nval ys = true ∧ pos key = true
  · obtain ⟨hv, hk⟩ := hv
    have hlen := nval_len hv
    obtain ⟨hl1, hl2⟩ := hlen
    have hnn : 0 ≤ nbefore ys key := by
      rw [nbefore_yes hv hk]; exact (pos_iff.1 (node_pos hv (prv_mem hl1 key))).1
    have HV := Lib.hid hv
    have HK := Lib.hid hk
    clear hv hk
    obtain ⟨g, rfl⟩ := ho.some_ (by omega)
    go_wp2_with fail
    refine H1.out.mono ?_; rintro e w' ⟨rfl, rfl⟩
    go_wp2_with fail
    refine H2.out.mono ?_; rintro e w2 ⟨rfl, hb2⟩
    replace ho := ho.below hb2 (Nat.le_refl _)
    replace hB := below_next hB hb2
    clear hb2 H1 H2
    go_wp2
    go_loopw [7] (fun i wr => ∃ k : Nat, k ≤ ys.length ∧ i = .int .i64 k ∧ OwnI wr w.heap.size (some ⟨g, 0, none⟩) c' ys ∧ Below w.heap.size w wr) (fun i _ => ys.length - (intOf i).toNat)
    case atStart => exact ⟨0, Nat.zero_le _, rfl, ho, hB⟩
    case round =>
      clear ho hB
      obtain ⟨k, hk, rfl, ho, hB⟩ := hrel
      by_cases hlt : k < ys.length
      · obtain ⟨y, hy⟩ : ∃ y, ys[k] = y := ⟨_, rfl⟩
        have hc := ho.cellAt ((List.getElem?_eq_getElem hlt).trans (congrArg some hy))
        have HM := Lib.hid (show y ∈ ys from hy ▸ List.getElem_mem hlt)
        clear hy
        by_cases he : nbefore ys key = key
        · have he' : (nbefore ys key != key) = false := by simpa using he
          clear he
          go_wp2
          go_roundw
          case rel => exact ⟨k + 1, by omega, by go_num, ho, hB⟩
          case measure => simp [intOf]; omega
        · have he' : (nbefore ys key != key) = true := by simpa using he
          have hf := before_btw HV.out HK.out HM.out he
          clear he
          go_wp2_with (go_at_call 11; refine (cb_impl _ _ _ _).mono ?_; rintro e w3 ⟨rfl, hb3⟩; have ho3 := OwnI.below ho hb3 (Nat.le_refl _); have hB3 := below_next hB hb3)
          go_roundw
          case rel => exact ⟨k + 1, by omega, by go_num, ho3, hB3⟩
          case measure => simp [intOf]; omega
      · have hh : has ys (nbefore ys key) = true := by rw [has_iff, nbefore_yes HV.out HK.out]; exact prv_mem hl1 key
        by_cases he : nbefore ys key = key
        · have he' : (nbefore ys key != key) = false := by simpa using he
          have h1 := before_one HV.out HK.out he
          have h1' : ((ys.length : Int) == 1) = true := by rw [beq_iff_eq]; omega
          clear he h1
          go_wp2_with (go_at_call 24; refine (hasInt_any wr.heap.size _ c' ys _ hmax wr ho.nums).mono ?_; rintro e w' ⟨rfl, rfl⟩)
          go_ret
          exact ⟨rfl, hB⟩
        · have he' : (nbefore ys key != key) = true := by simpa using he
          clear he
          go_wp2_with (go_at_call 24; refine (hasInt_any wr.heap.size _ c' ys _ hmax wr ho.nums).mono ?_; rintro e w' ⟨rfl, rfl⟩)
          go_ret
          exact ⟨rfl, hB⟩
  · have hneg : nbefore ys key < 0 := by rw [nbefore_no hv]; omega
    clear hv
    go_wp2_with fail
    refine H1.out.mono ?_; rintro e w' ⟨rfl, rfl⟩
    go_wp2_with fail
    refine H2.out.mono ?_; rintro e w2 ⟨rfl, hb2⟩
    go_wp2
    go_ret
    exact ⟨rfl, below_next hB hb2⟩

set_option maxRecDepth 100000 in
theorem lifted (os : Os) (started : os.Started) (H : Type) (enc : TypeId × Value → H) :
    ReturnsInHanded {} Try.checked os 8 .any (Rows.fnNodesBeforeSpec.pre6 enc Try.prog Try.f8 Rows.fnNodesBeforeRow.domain false) (Rows.fnNodesBeforeSpec.post enc Try.prog Try.f8 false true false false) := by
  refine returnsInHanded_of_change (C := Try.checked) own started (by kernel_rfl) Try.func8
    (ChangeSpec.witness6 (enc := enc) (C := Try.checked) false ⟨#[], #[.slice none 0 0], []⟩ 8 (by kernel_rfl) (by kernel_rfl) (by kernel_rfl) (by kernel_rfl)) ?_
  intro W base args ds gs before hval0 hW hcnd _
  have hval : ∀ (j : Nat) t v, Try.f8.params[j]? = some t → args[j]? = some v → Value.okWide Try.prog W .any base t v := hval0
  have hW' := hW
  obtain ⟨p, q, hA0, hV, rfl, hfz, hnd⟩ := hW
  have hA : DataW.TrodAll enc Try.prog W 0 (fun _ => true) true Try.f8.params.toList args.toList ds p := hA0
  rw [Try.params8] at hA hval
  obtain ⟨v0, vs0, d0, ds0, p0, q0, hargs, rfl, rfl, h0, r0⟩ := trodAll_cons hA
  obtain ⟨rfl, rfl, rfl⟩ := trodAll_nil r0
  obtain rfl : args = #[v0] := by cases args; simp_all
  obtain ⟨rfl, rfl⟩ := trodVars_none hV
  obtain ⟨A0, len0, c0, rfl⟩ := okWide_slice Try.underlying22 (hval 0 22 v0 rfl rfl)
  have k0 := h0
  have lt0 : ∀ x ∈ p0, x.block < W.heap.size := by obtain ⟨m, hm⟩ := k0; exact DataW.trod_lt m _ _ _ hm
  obtain ⟨xs0, rfl, w0⟩ : ∃ xs : List Int, xs.length = len0 ∧ Arg .u8 W A0 c0 xs := by
    obtain ⟨fuel, hf⟩ := h0
    rcases open_ints Try.underlying22 Try.underlying5 (by kernel_rfl) hf with ⟨hcs, _⟩ | ⟨x, l, c, zs, hcs, _, hl, hm, hz, _, hcell, hwz⟩
    · simp [Value.cells] at hcs
      obtain ⟨rfl, rfl, rfl⟩ := hcs
      exact Arg.none_
    · simp [Value.cells] at hcs
      obtain ⟨rfl, rfl, rfl⟩ := hcs
      exact Arg.row hl hm (by simpa using hz) hcell hwz
  clear hA0 hval0
  refine (walk A0 c0 xs0 W w0).mono fun e W' ⟨he, bel⟩ => ?_
  subst he
  exact ⟨_, rfl, _, _, _, [], _, [], hW', trodAll_mk1 (shut_bool Try.underlying4 _), (trodAll_cons_mk (Below.trod laidOut (by kernel_rfl) (of_decide_eq_true (by kernel_rfl)) k0 bel lt0) trodAll_mk0), rfl, bel.frame _, fun h => by cases h⟩

theorem nm : Try.f8.name = Rows.fnNodesBeforeRow.func := by kernel_rfl
theorem notMain : decide (Check.packageOf Rows.fnNodesBeforeRow.func = "main") = false := by kernel_rfl
theorem noWrapper : Func.isWrapper Try.prog Try.f8 Rows.fnNodesBeforeRow.wrapper Rows.fnNodesBeforeRow.mainSum := by
  unfold Func.isWrapper; rw [nm, if_neg (of_decide_eq_false notMain)]; exact ⟨rfl, rfl⟩
theorem closed : joinedFacts Try.prog 8 Try.f8 Rows.fnNodesBeforeSpec Rows.fnNodesBeforeRow = true := by
  unfold joinedFacts
  exact (andI (andI (andI (andI (andI (andI (andI (andI (andI (andI (andI (andI (andI (andI (andI (andI (andI (andI (andI (andI (andI (andI (andI (andI (andI (andI (andI (andI (andI (andI (andI (by kernel_rfl) laidOut) rowed) (by kernel_rfl)) (by kernel_rfl)) (by kernel_rfl)) (by kernel_rfl)) (by kernel_rfl)) (by kernel_rfl)) (by kernel_rfl)) (by kernel_rfl)) (by kernel_rfl)) (by kernel_rfl)) (by kernel_rfl)) (by kernel_rfl)) (by kernel_rfl)) (by kernel_rfl)) (by kernel_rfl)) (by kernel_rfl)) (by kernel_rfl)) (by kernel_rfl)) (by kernel_rfl)) (by rw [plain_keys]; kernel_rfl)) (by kernel_rfl)) heard) mayEnter) (by rw [liftsFinal]; kernel_rfl)) (by rw [makeCut]; kernel_rfl)) (by kernel_rfl)) (by kernel_rfl)) (by kernel_rfl)) (by kernel_rfl))
theorem noInstance : decide (Func.isInstance Try.prog Try.f8 Rows.fnNodesBeforeRow.origin Rows.fnNodesBeforeRow.targs) = true := by kernel_rfl
theorem named : Try.prog.funcNamed Rows.fnNodesBeforeRow.func = some 8 := by kernel_rfl
theorem over : Rows.fnNodesBeforeRow.holds Try.pinned (OpenSpec.ofChange Rows.fnNodesBeforeSpec) :=
  OpenClaim.holds_of_wide 8 Try.f8 rfl rfl rfl rfl rfl rfl rfl ⟨rfl, rfl, rfl, rfl, rfl⟩ rfl rfl rfl rfl rfl named Try.func8 closed
    (of_decide_eq_true noInstance) noWrapper
    (fun os started H enc _ => lifted os started H enc)

/-- The statement. -/
theorem proved : Rows.FnNodesBeforeSaid := over
#print axioms proved
end Go.Proofs.Ytdkcppbafpjpgaa.FnNodesBefore
