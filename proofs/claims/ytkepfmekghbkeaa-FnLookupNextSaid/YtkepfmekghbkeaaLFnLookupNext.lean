/- The law FnLookupNext: a path follows the next nodes. Proved for every input, no condition: the law's Go function returns true, and each argument reads afterwards as it read before. -/
import Derived.Test.YtkepfmekghbkeaaSeat
import Derived.Test.YtkepfmekghbkeaaPath
import Derived.Test.YtkepfmekghbkeaaSame
import Derived.Test.YtkepfmekghbkeaaDraw5
import Derived.Test.YtkepfmekghbkeaaLnx
import Derived.WalkKit
import Derived.ProofKit
import Derived.OpenShut
import Derived.ShutString
import Derived.ChangeOld
import Derived.Below
namespace Go.Proofs.Ytkepfmekghbkeaa.FnLookupNext
open Go.ChangeShapes Go.WideShapes Go.ChangeAt Go.RowKit
open Go.ChangeMaps (open_string shut_string)
set_option linter.unusedVariables false
set_option maxHeartbeats 400000

theorem next_any (xs : List Int) (id key : Int) : ∀ (j : Nat) (x y : Int), (lpath xs id key)[j]? = some x → (lpath xs id key)[j + 1]? = some y → lnext xs x key = y := by
  intro j x y hx hy
  unfold lpath at hx hy
  split at hx
  · next h =>
    rw [if_pos h] at hy
    have hn := nodeOk_iff.1 h.1
    obtain ⟨h1, h2⟩ := path_next hn.1 h.2 hn.2 j x y hx hy
    rw [h1, lnext_yes (nodeOk_iff.2 ⟨hn.1, h2⟩) h.2]
  · next h => simp at hx
set_option maxHeartbeats 4000000 in
theorem walk (A : Option Addr) (c : Nat) (xs : List Int) (w : World) (w0 : Arg .u8 w A c xs) : Calls Try.prog 7 #[.slice A xs.length c] w fun e w' => e = .returned (.bool true) ∧ Below w.heap.size w w' := by
  have HO := Lib.hid (drawPath_any A c xs w w0)
  obtain ⟨hl, hc, -, -⟩ := w0
  unfold maxLen at hc
  by_cases hbig : 1048576 < xs.length
  · go_enter Try.func7, Try.ntmps7
    go_wp2
    go_ret
    exact ⟨rfl, Below.refl _ _⟩
  have hsm : xs.length ≤ 1048576 := by omega
  clear hbig hl hc
  go_enter Try.func7, Try.ntmps7
  go_wp2_with fail
  refine HO.out.mono ?_; rintro e w1 ⟨A1, c1, ys, id, key, rfl, ho, hy20, hyb, ⟨id0, id1⟩, ⟨key0, key1⟩, hB⟩
  clear HO
  have hmax : ys.length ≤ maxLen := by unfold maxLen; omega
  have H1 := Lib.hid (lpath_impl w1.heap.size A1 c1 ys id key hmax w1 (Nat.le_refl _) ho.nums)
  go_wp2_with fail
  refine H1.out.mono ?_; rintro e w2 ⟨A2, c2, rfl, ho2, hb2⟩
  replace ho := ho.below hb2 (Nat.le_refl _)
  replace ho2 := ho2.base hB.size
  replace hB := below_next hB hb2
  clear H1 hb2
  have H2 := Lib.hid (lpath_spec w2.heap.size A1 c1 ys id key hmax w2 (Nat.le_refl _) ho.nums)
  go_wp2_with fail
  refine H2.out.mono ?_; rintro e w3 ⟨A3, c3, rfl, ho3, hb3⟩
  replace ho := ho.below hb3 (Nat.le_refl _)
  replace ho2 := ho2.below hb3 (Nat.le_refl _)
  replace ho3 := ho3.base hB.size
  replace hB := below_next hB hb3
  clear H2 hb3
  have hvl := lpath_le ys id key
  have hvm : (lpath ys id key).length ≤ maxLen := by unfold maxLen; omega
  have HQ := fun (W : World) (h2 : OwnI W w.heap.size A2 c2 (lpath ys id key)) (h3 : OwnI W w.heap.size A3 c3 (lpath ys id key)) => Lib.hid (same_self W.heap.size A2 A3 c2 c3 _ hvm W h2.nums h3.nums)
  generalize hvs : lpath ys id key = vs at HQ ho2 ho3 hvl hvm
  have HVS := Lib.hid hvs
  clear hvs
  go_wp2_with fail
  refine (HQ w3 ho2 ho3).out.mono ?_
  rintro e w4 ⟨rfl, hb4⟩
  replace ho := ho.below hb4 (Nat.le_refl _)
  replace ho2 := ho2.below hb4 (Nat.le_refl _)
  replace hB := below_next hB hb4
  clear ho3 HQ hb4
  have HE := Lib.hid (next_any ys id key)
  rw [HVS.out] at HE
  clear HVS
  go_wp2_with fail
  go_loopw [8] (fun i wr => ∃ k : Nat, k ≤ vs.length ∧ i = .int .i64 (k + 1) ∧ OwnI wr w.heap.size A1 c1 ys ∧ OwnI wr w.heap.size A2 c2 vs ∧ Below w.heap.size w wr) (fun i _ => vs.length + 1 - (intOf i).toNat)
  case atStart => exact ⟨0, Nat.zero_le _, rfl, ho, ho2, hB⟩
  case round =>
    clear ho ho2 hB
    obtain ⟨k, hk, rfl, ho, ho2, hB⟩ := hrel
    have hvm3 := hvm
    unfold maxLen at hvm3
    by_cases hlt : k + 1 < vs.length
    · obtain ⟨g, rfl⟩ := ho2.some_ (by omega)
      obtain ⟨x, hx⟩ : ∃ x, vs[k]? = some x := ⟨_, List.getElem?_eq_getElem (by omega)⟩
      obtain ⟨y, hy⟩ : ∃ y, vs[k + 1]? = some y := ⟨_, List.getElem?_eq_getElem hlt⟩
      have d := own_at ho2 hx
      have d' := own_at ho2 hy
      have e1 := HE.out k x y hx hy
      have hd := ho.drewN 1
      have HL := Lib.hid (ln_impl wr.heap.size A1 c1 ys x key hmax wr.drew (Nat.le_refl _) (NumsAt.drewN ho.nums 1))
      rw [e1] at HL
      have HO := Lib.hid ho
      have HO2 := Lib.hid ho2
      have hwr : IntKind.i64.wrap (k : Int) = (k : Int) := by rw [IntKind.wrap_i64]; omega
      have hk1 : (k : Int) < (vs.length : Int) := by omega
      have hk2 : (k : Int) + 1 < (vs.length : Int) := by omega
      have hk3 : k < vs.length := by omega
      clear hx hy e1 ho ho2 hd
      go_wp2_with fail
      go_region_with (go_at_call 16; refine (HL.out).mono ?_; rintro e w5 ⟨rfl, hb5'⟩; have hb5 := below_undrew hb5'; clear hb5'
                      have d5 := (hb5.cell (World.block_lt_of_cell? wr _ d)).trans d
                      have d5' := (hb5.cell (World.block_lt_of_cell? wr _ d')).trans d')
      all_goals
        go_wp2
        go_roundw
        case rel => exact ⟨k + 1, by omega, by go_num, HO.out.below hb5 (Nat.le_refl _), HO2.out.below hb5 (Nat.le_refl _), below_next hB hb5⟩
        case measure => simp [intOf]; omega
    · go_wp2
      go_ret
      exact ⟨rfl, hB⟩

set_option maxRecDepth 100000 in
theorem lifted (os : Os) (started : os.Started) (H : Type) (enc : TypeId × Value → H) :
    ReturnsInHanded {} Try.checked os 7 .any (Rows.fnLookupNextSpec.pre6 enc Try.prog Try.f7 Rows.fnLookupNextRow.domain false) (Rows.fnLookupNextSpec.post enc Try.prog Try.f7 false true false false) := by
  refine returnsInHanded_of_change (C := Try.checked) own started (by kernel_rfl) Try.func7
    (ChangeSpec.witness6 (enc := enc) (C := Try.checked) false ⟨#[], #[.slice none 0 0], []⟩ 8 (by kernel_rfl) (by kernel_rfl) (by kernel_rfl) (by kernel_rfl)) ?_
  intro W base args ds gs before hval0 hW hcnd _
  have hval : ∀ (j : Nat) t v, Try.f7.params[j]? = some t → args[j]? = some v → Value.okWide Try.prog W .any base t v := hval0
  have hW' := hW
  obtain ⟨p, q, hA0, hV, rfl, hfz, hnd⟩ := hW
  have hA : DataW.TrodAll enc Try.prog W 0 (fun _ => true) true Try.f7.params.toList args.toList ds p := hA0
  rw [Try.params7] at hA hval
  obtain ⟨v0, vs0, d0, ds0, p0, q0, hargs, rfl, rfl, h0, r0⟩ := trodAll_cons hA
  obtain ⟨rfl, rfl, rfl⟩ := trodAll_nil r0
  obtain rfl : args = #[v0] := by cases args; simp_all
  obtain ⟨rfl, rfl⟩ := trodVars_none hV
  obtain ⟨A0, len0, c0, rfl⟩ := okWide_slice Try.underlying22 (hval 0 22 v0 rfl rfl)
  have k0 := h0
  have lt0 : ∀ x ∈ p0, x.block < W.heap.size := by obtain ⟨m, hm⟩ := k0; exact DataW.trod_lt m _ _ _ hm
  obtain ⟨xs0, rfl, w0⟩ : ∃ xs : List Int, xs.length = len0 ∧ Arg .u8 W A0 c0 xs := by
    obtain ⟨fuel, hf⟩ := h0
    rcases open_ints Try.underlying22 Try.underlying5 (by kernel_rfl) hf with ⟨hcs, _⟩ | ⟨x, l, c, zs, hcs, _, hl, hm, hz, _, hcell, hwz⟩
    · simp [Value.cells] at hcs
      obtain ⟨rfl, rfl, rfl⟩ := hcs
      exact Arg.none_
    · simp [Value.cells] at hcs
      obtain ⟨rfl, rfl, rfl⟩ := hcs
      exact Arg.row hl hm (by simpa using hz) hcell hwz
  clear hA0 hval0
  refine (walk A0 c0 xs0 W w0).mono fun e W' ⟨he, bel⟩ => ?_
  subst he
  exact ⟨_, rfl, _, _, _, [], _, [], hW', trodAll_mk1 (shut_bool Try.underlying4 _), (trodAll_cons_mk (Below.trod laidOut (by kernel_rfl) (of_decide_eq_true (by kernel_rfl)) k0 bel lt0) trodAll_mk0), rfl, bel.frame _, fun h => by cases h⟩

theorem nm : Try.f7.name = Rows.fnLookupNextRow.func := by kernel_rfl
theorem notMain : decide (Check.packageOf Rows.fnLookupNextRow.func = "main") = false := by kernel_rfl
theorem noWrapper : Func.isWrapper Try.prog Try.f7 Rows.fnLookupNextRow.wrapper Rows.fnLookupNextRow.mainSum := by
  unfold Func.isWrapper; rw [nm, if_neg (of_decide_eq_false notMain)]; exact ⟨rfl, rfl⟩
theorem closed : joinedFacts Try.prog 7 Try.f7 Rows.fnLookupNextSpec Rows.fnLookupNextRow = true := by
  unfold joinedFacts
  exact (andI (andI (andI (andI (andI (andI (andI (andI (andI (andI (andI (andI (andI (andI (andI (andI (andI (andI (andI (andI (andI (andI (andI (andI (andI (andI (andI (andI (andI (andI (andI (by kernel_rfl) laidOut) rowed) (by kernel_rfl)) (by kernel_rfl)) (by kernel_rfl)) (by kernel_rfl)) (by kernel_rfl)) (by kernel_rfl)) (by kernel_rfl)) (by kernel_rfl)) (by kernel_rfl)) (by kernel_rfl)) (by kernel_rfl)) (by kernel_rfl)) (by kernel_rfl)) (by kernel_rfl)) (by kernel_rfl)) (by kernel_rfl)) (by kernel_rfl)) (by kernel_rfl)) (by kernel_rfl)) (by rw [plain_keys]; kernel_rfl)) (by kernel_rfl)) heard) mayEnter) (by rw [liftsFinal]; kernel_rfl)) (by rw [makeCut]; kernel_rfl)) (by kernel_rfl)) (by kernel_rfl)) (by kernel_rfl)) (by kernel_rfl))
theorem noInstance : decide (Func.isInstance Try.prog Try.f7 Rows.fnLookupNextRow.origin Rows.fnLookupNextRow.targs) = true := by kernel_rfl
theorem named : Try.prog.funcNamed Rows.fnLookupNextRow.func = some 7 := by kernel_rfl
theorem over : Rows.fnLookupNextRow.holds Try.pinned (OpenSpec.ofChange Rows.fnLookupNextSpec) :=
  OpenClaim.holds_of_wide 7 Try.f7 rfl rfl rfl rfl rfl rfl rfl ⟨rfl, rfl, rfl, rfl, rfl⟩ rfl rfl rfl rfl rfl named Try.func7 closed
    (of_decide_eq_true noInstance) noWrapper
    (fun os started H enc _ => lifted os started H enc)

/-- The statement. -/
theorem proved : Rows.FnLookupNextSaid := over
#print axioms proved
end Go.Proofs.Ytkepfmekghbkeaa.FnLookupNext
