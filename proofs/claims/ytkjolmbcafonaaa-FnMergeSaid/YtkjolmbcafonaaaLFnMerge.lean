/- The law FnMerge: merging changes no holder. Proved for every input, no condition: the law's Go function returns true, and each argument reads afterwards as it read before. -/
import Derived.Test.YtkjolmbcafonaaaSeat
import Derived.Test.YtkjolmbcafonaaaDrawT
import Derived.Test.YtkjolmbcafonaaaMrg
import Derived.Test.YtkjolmbcafonaaaSameT
import Derived.WalkKit
import Derived.ProofKit
import Derived.OpenShut
import Derived.ShutString
import Derived.ChangeOld
import Derived.Below
namespace Go.Proofs.Ytkjolmbcafonaaa.FnMerge
open Go.ChangeShapes Go.WideShapes Go.ChangeAt Go.RowKit
open Go.ChangeMaps (open_string shut_string)
set_option linter.unusedVariables false
set_option maxHeartbeats 400000

theorem mrg_hold {ys : List Tri} (h : lval ys = true) {k : Int} (hk : pos k = true) : (loVal (mrg ys) k).2 = (loVal ys k).2 := by
  have h1 : loOk ys k = true := by unfold loOk; rw [h, hk]; rfl
  have h2 : loOk (mrg ys) k = true := by unfold loOk; rw [mrg_valid h, hk]; rfl
  unfold loVal
  rw [if_pos h1, if_pos h2]
  exact mrg_holder h k
set_option maxHeartbeats 4000000 in
theorem walk (A : Option Addr) (c : Nat) (xs : List Int) (w : World) (w0 : Arg .u8 w A c xs) : Calls Try.prog 7 #[.slice A xs.length c] w fun e w' => e = .returned (.bool true) ∧ Below w.heap.size w w' := by
  have HO := Lib.hid (drawMrg_any A c xs w w0)
  obtain ⟨hl, hc, -, -⟩ := w0
  unfold maxLen at hc
  by_cases hbig : 1048576 < xs.length
  · go_enter Try.func7, Try.ntmps7
    go_wp2
    go_ret
    exact ⟨rfl, Below.refl _ _⟩
  have hsm : xs.length ≤ 1048576 := by omega
  clear hbig hl hc
  go_enter Try.func7, Try.ntmps7
  go_wp2_with fail
  refine HO.out.mono ?_; rintro e w1 ⟨A1, c1, ys, rfl, ho, hy12, hB⟩
  clear HO
  obtain ⟨hlc, hcm⟩ := ho.len
  have hvl := mg_le ys
  have HI := fun (W : World) (h : OwnT W w.heap.size A1 c1 ys) => Lib.hid (mg_impl W.heap.size A1 c1 ys hlc hcm W (Nat.le_refl _) h.tris)
  have HS := fun (W : World) (h : OwnT W w.heap.size A1 c1 ys) => Lib.hid (mg_spec W.heap.size A1 c1 ys hlc hcm W (Nat.le_refl _) h.tris)
  have hvm : (mgL ys).length ≤ maxLen := by unfold maxLen; omega
  unfold MadeT at HI HS
  cases hv : lval ys
  · have hL : mgL ys = [] := by unfold mgL; rw [hv]; rfl
    rw [hL] at HI HS hvm
    clear hL hvl
    go_wp2_with fail
    refine (HI w1 ho).out.mono ?_; rintro e w2 ⟨A2, c2, rfl, ho2, hb2⟩
    replace ho := ho.below hb2 (Nat.le_refl _)
    replace ho2 := ho2.base hB.size
    replace hB := below_next hB hb2
    clear hb2
    go_wp2_with fail
    refine (HS w2 ho).out.mono ?_; rintro e w3 ⟨A3, c3, rfl, ho3, hb3⟩
    replace ho := ho.below hb3 (Nat.le_refl _)
    replace ho2 := ho2.below hb3 (Nat.le_refl _)
    replace hB := below_next hB hb3
    have HO1 := Lib.hid ho
    have HO2 := Lib.hid ho2
    have HO3 := Lib.hid ho3
    clear hb3 ho2 ho3 ho HI HS
    go_wp2_with fail
    refine (sameT_self hvm _ HO2.out HO3.out).mono ?_; rintro e w4 ⟨rfl, hd4⟩
    replace HO1 := Lib.hid (HO1.out.below (below_draw hd4) (Nat.le_refl _))
    replace HO2 := Lib.hid (HO2.out.below (below_draw hd4) (Nat.le_refl _))
    replace HO3 := Lib.hid (HO3.out.below (below_draw hd4) (Nat.le_refl _))
    replace hB := below_next hB (below_draw hd4)
    clear hd4
    go_wp2_with fail
    refine (sameT_self hvm _ HO2.out HO3.out).mono ?_; rintro e w5 ⟨rfl, hd5⟩
    go_wp2
    go_ret
    exact ⟨rfl, below_next hB (below_draw hd5)⟩
  · have hL : mgL ys = mrg ys := by unfold mgL; rw [if_pos hv]
    have hmp := mrg_pos hv
    rw [← hL] at hmp
    have HV := Lib.hid hv
    have HLL := Lib.hid hL
    clear hL hv
    generalize hLe : mgL ys = L at HI HS hvm hvl hmp HLL
    clear hLe
    have hne : ¬ (L.length : Int) = 0 := by omega
    have hneb : ((L.length : Int) == 0) = false := by rw [beq_eq_false_iff_ne]; exact hne
    go_wp2_with fail
    refine (HI w1 ho).out.mono ?_; rintro e w2 ⟨A2, c2, rfl, ho2, hb2⟩
    replace ho := ho.below hb2 (Nat.le_refl _)
    replace ho2 := ho2.base hB.size
    replace hB := below_next hB hb2
    clear hb2
    go_wp2_with fail
    refine (HS w2 ho).out.mono ?_; rintro e w3 ⟨A3, c3, rfl, ho3, hb3⟩
    replace ho := ho.below hb3 (Nat.le_refl _)
    replace ho2 := ho2.below hb3 (Nat.le_refl _)
    replace hB := below_next hB hb3
    have HO1 := Lib.hid ho
    have HO2 := Lib.hid ho2
    have HO3 := Lib.hid ho3
    clear hb3 ho2 ho3 ho HI HS
    go_wp2_with fail
    refine (sameT_self hvm _ HO2.out HO3.out).mono ?_; rintro e w4 ⟨rfl, hd4⟩
    replace HO1 := Lib.hid (HO1.out.below (below_draw hd4) (Nat.le_refl _))
    replace HO2 := Lib.hid (HO2.out.below (below_draw hd4) (Nat.le_refl _))
    replace HO3 := Lib.hid (HO3.out.below (below_draw hd4) (Nat.le_refl _))
    replace hB := below_next hB (below_draw hd4)
    clear hd4
    clear HO3
    obtain ⟨hlc2, hcm2⟩ := HO2.out.len
    have HH1 := fun (k : Nat) (hk : k < 64) (W : World) (h : OwnT W w.heap.size A1 c1 ys) => Lib.hid (holder_any W.heap.size A1 c1 ys (k : Int) hlc hcm W (Nat.le_refl _) h.tris)
    have HH2 := fun (k : Nat) (hk : k < 64) (W : World) (h : OwnT W w.heap.size A2 c2 L) => Lib.hid (holder_any W.heap.size A2 c2 L (k : Int) hlc2 hcm2 W (Nat.le_refl _) h.tris)
    have HE := Lib.hid (fun (k : Nat) (hk : k < 64) => (show (loVal L (k : Int)).2 = (loVal ys (k : Int)).2 from by rw [HLL.out]; exact mrg_hold HV.out (pos_iff.2 ⟨by omega, by omega⟩)))
    have HV2 := fun (W : World) (h : OwnT W w.heap.size A2 c2 L) => Lib.hid (lv_impl W.heap.size A2 c2 L hlc2 hcm2 W (Nat.le_refl _) h.tris)
    have HVT := Lib.hid (show lval L = true from by rw [HLL.out]; exact mrg_valid HV.out)
    have HDI := Lib.hid (show ∀ (i : Nat) (a b : Tri), L[i]? = some a → L[i + 1]? = some b → a.2 ≠ b.2 from by rw [HLL.out]; exact (mrg_of HV.out).diff)
    have hlen : L.length ≤ ys.length := by rw [HLL.out]; exact (mrg_of HV.out).len
    clear HLL hlc hcm hlc2 hcm2
    go_wp2_with fail
    go_loopw [6] (fun i wr => ∃ k : Nat, k ≤ 64 ∧ i = .int .i64 k ∧ OwnT wr w.heap.size A1 c1 ys ∧ OwnT wr w.heap.size A2 c2 L ∧ Below w.heap.size w wr) (fun i _ => 64 - (intOf i).toNat)
    case atStart => exact ⟨0, by omega, rfl, HO1.out, HO2.out, hB⟩
    case round =>
      clear HO1 HO2 hB
      obtain ⟨k, hk, rfl, ho, ho2, hB⟩ := hrel
      by_cases hlt : k < 64
      · have he := HE.out k hlt
        have h1 := HH1 k hlt wr ho
        have h2 := fun W h => HH2 k hlt W h
        rw [he] at h2
        generalize (loVal ys (k : Int)).2 = v at h1 h2
        clear he HH1 HH2
        have HA := Lib.hid ho
        have HB2 := Lib.hid ho2
        clear ho ho2
        go_wp2_with fail
        refine h1.out.mono ?_; rintro e w5 ⟨rfl, hb5⟩
        replace HA := Lib.hid (HA.out.below hb5 (Nat.le_refl _))
        replace HB2 := Lib.hid (HB2.out.below hb5 (Nat.le_refl _))
        replace hB := below_next (w1 := wr) hB hb5
        have h3 := h2 w5 HB2.out
        clear hb5 h1 h2
        go_wp2_with fail
        refine h3.out.mono ?_; rintro e w6 ⟨rfl, hb6⟩
        clear h3
        go_wp2
        go_roundw
        case rel => exact ⟨k + 1, by omega, by go_num, HA.out.below hb6 (Nat.le_refl _), HB2.out.below hb6 (Nat.le_refl _), below_next hB hb6⟩
        case measure => simp [intOf]; omega
      · clear HH1 HH2 HE
        have HO1 := Lib.hid ho
        have HO2 := Lib.hid ho2
        clear ho ho2
        go_wp2_with fail
        go_loopw [11] (fun i w7 => ∃ k : Nat, k ≤ L.length ∧ i = .int .i64 (k + 1) ∧ OwnT w7 w.heap.size A1 c1 ys ∧ OwnT w7 w.heap.size A2 c2 L ∧ Below w.heap.size w w7) (fun i _ => L.length + 1 - (intOf i).toNat)
        case atStart => exact ⟨0, by omega, rfl, HO1.out, HO2.out, hB⟩
        case round =>
          rename World => w7
          clear HO1 HO2 hB
          obtain ⟨j, hj, rfl, ho, ho2, hB⟩ := hrel
          by_cases hlt2 : j + 1 < L.length
          · obtain ⟨y, hy⟩ : ∃ y, L[j]? = some y := ⟨_, List.getElem?_eq_getElem (by omega)⟩
            obtain ⟨x, hx⟩ : ∃ x, L[j + 1]? = some x := ⟨_, List.getElem?_eq_getElem hlt2⟩
            have hd := HDI.out j y x hy hx
            obtain ⟨y1, y2, y3⟩ := y
            obtain ⟨x1, x2, x3⟩ := x
            obtain ⟨g2, rfl⟩ := ho2.some_ (by omega)
            obtain ⟨q1, q2, q3⟩ := ho2.at_ hy
            obtain ⟨d1, d2, d3⟩ := ho2.at_ hx
            simp only at q1 q2 q3 d1 d2 d3 hd
            have hj1 : (j : Int) + 1 < (L.length : Int) := by omega
            have hj0 : (j : Int) < (L.length : Int) := by omega
            have hwj : IntKind.i64.wrap (j : Int) = (j : Int) := by rw [IntKind.wrap_i64]; omega
            have HA := Lib.hid ho
            have HB2 := Lib.hid ho2
            clear hx hy ho ho2
            by_cases e1 : y2 = x2
            · have e1b : (y2 == x2) = true := by simpa using e1
              have e2b : (y3 == x3) = false := by rw [beq_eq_false_iff_ne]; intro e; exact hd (pair_eq e1 e)
              clear hd e1
              go_wp2_with fail
              go_quiet (fail)
              go_wp2
              go_roundw
              case rel => exact ⟨j + 1, by omega, by go_num, HA.out.drewN _, HB2.out.drewN _, below_dn hB _⟩
              case measure => simp [intOf]; omega
            · have e1b : (y2 == x2) = false := by rw [beq_eq_false_iff_ne]; exact e1
              clear hd e1
              go_wp2_with fail
              go_quiet (fail)
              go_wp2
              go_roundw
              case rel => exact ⟨j + 1, by omega, by go_num, HA.out.drewN _, HB2.out.drewN _, below_dn hB _⟩
              case measure => simp [intOf]; omega
          · have h5 := HV2 w7 ho2
            rw [HVT.out] at h5
            clear HV2
            have hlI : (L.length : Int) ≤ (ys.length : Int) := by omega
            go_wp2_with fail
            refine h5.out.mono ?_; rintro e w8 ⟨rfl, hb8⟩
            go_wp2
            go_ret
            exact ⟨rfl, below_next hB hb8⟩

set_option maxRecDepth 100000 in
theorem lifted (os : Os) (started : os.Started) (H : Type) (enc : TypeId × Value → H) :
    ReturnsInHanded {} Try.checked os 7 .any (Rows.fnMergeSpec.pre6 enc Try.prog Try.f7 Rows.fnMergeRow.domain false) (Rows.fnMergeSpec.post enc Try.prog Try.f7 false true false false) := by
  refine returnsInHanded_of_change (C := Try.checked) own started (by kernel_rfl) Try.func7
    (ChangeSpec.witness6 (enc := enc) (C := Try.checked) false ⟨#[], #[.slice none 0 0], []⟩ 8 (by kernel_rfl) (by kernel_rfl) (by kernel_rfl) (by kernel_rfl)) ?_
  intro W base args ds gs before hval0 hW hcnd _
  have hval : ∀ (j : Nat) t v, Try.f7.params[j]? = some t → args[j]? = some v → Value.okWide Try.prog W .any base t v := hval0
  have hW' := hW
  obtain ⟨p, q, hA0, hV, rfl, hfz, hnd⟩ := hW
  have hA : DataW.TrodAll enc Try.prog W 0 (fun _ => true) true Try.f7.params.toList args.toList ds p := hA0
  rw [Try.params7] at hA hval
  obtain ⟨v0, vs0, d0, ds0, p0, q0, hargs, rfl, rfl, h0, r0⟩ := trodAll_cons hA
  obtain ⟨rfl, rfl, rfl⟩ := trodAll_nil r0
  obtain rfl : args = #[v0] := by cases args; simp_all
  obtain ⟨rfl, rfl⟩ := trodVars_none hV
  obtain ⟨A0, len0, c0, rfl⟩ := okWide_slice Try.underlying22 (hval 0 22 v0 rfl rfl)
  have k0 := h0
  have lt0 : ∀ x ∈ p0, x.block < W.heap.size := by obtain ⟨m, hm⟩ := k0; exact DataW.trod_lt m _ _ _ hm
  obtain ⟨xs0, rfl, w0⟩ : ∃ xs : List Int, xs.length = len0 ∧ Arg .u8 W A0 c0 xs := by
    obtain ⟨fuel, hf⟩ := h0
    rcases open_ints Try.underlying22 Try.underlying5 (by kernel_rfl) hf with ⟨hcs, _⟩ | ⟨x, l, c, zs, hcs, _, hl, hm, hz, _, hcell, hwz⟩
    · simp [Value.cells] at hcs
      obtain ⟨rfl, rfl, rfl⟩ := hcs
      exact Arg.none_
    · simp [Value.cells] at hcs
      obtain ⟨rfl, rfl, rfl⟩ := hcs
      exact Arg.row hl hm (by simpa using hz) hcell hwz
  clear hA0 hval0
  refine (walk A0 c0 xs0 W w0).mono fun e W' ⟨he, bel⟩ => ?_
  subst he
  exact ⟨_, rfl, _, _, _, [], _, [], hW', trodAll_mk1 (shut_bool Try.underlying4 _), (trodAll_cons_mk (Below.trod laidOut (by kernel_rfl) (of_decide_eq_true (by kernel_rfl)) k0 bel lt0) trodAll_mk0), rfl, bel.frame _, fun h => by cases h⟩

theorem nm : Try.f7.name = Rows.fnMergeRow.func := by kernel_rfl
theorem notMain : decide (Check.packageOf Rows.fnMergeRow.func = "main") = false := by kernel_rfl
theorem noWrapper : Func.isWrapper Try.prog Try.f7 Rows.fnMergeRow.wrapper Rows.fnMergeRow.mainSum := by
  unfold Func.isWrapper; rw [nm, if_neg (of_decide_eq_false notMain)]; exact ⟨rfl, rfl⟩
theorem closed : joinedFacts Try.prog 7 Try.f7 Rows.fnMergeSpec Rows.fnMergeRow = true := by
  unfold joinedFacts
  exact (andI (andI (andI (andI (andI (andI (andI (andI (andI (andI (andI (andI (andI (andI (andI (andI (andI (andI (andI (andI (andI (andI (andI (andI (andI (andI (andI (andI (andI (andI (andI (by kernel_rfl) laidOut) rowed) (by kernel_rfl)) (by kernel_rfl)) (by kernel_rfl)) (by kernel_rfl)) (by kernel_rfl)) (by kernel_rfl)) (by kernel_rfl)) (by kernel_rfl)) (by kernel_rfl)) (by kernel_rfl)) (by kernel_rfl)) (by kernel_rfl)) (by kernel_rfl)) (by kernel_rfl)) (by kernel_rfl)) (by kernel_rfl)) (by kernel_rfl)) (by kernel_rfl)) (by kernel_rfl)) (by rw [plain_keys]; kernel_rfl)) (by kernel_rfl)) heard) mayEnter) (by rw [liftsFinal]; kernel_rfl)) (by rw [makeCut]; kernel_rfl)) (by kernel_rfl)) (by kernel_rfl)) (by kernel_rfl)) (by kernel_rfl))
theorem noInstance : decide (Func.isInstance Try.prog Try.f7 Rows.fnMergeRow.origin Rows.fnMergeRow.targs) = true := by kernel_rfl
theorem named : Try.prog.funcNamed Rows.fnMergeRow.func = some 7 := by kernel_rfl
theorem over : Rows.fnMergeRow.holds Try.pinned (OpenSpec.ofChange Rows.fnMergeSpec) :=
  OpenClaim.holds_of_wide 7 Try.f7 rfl rfl rfl rfl rfl rfl rfl ⟨rfl, rfl, rfl, rfl, rfl⟩ rfl rfl rfl rfl rfl named Try.func7 closed
    (of_decide_eq_true noInstance) noWrapper
    (fun os started H enc _ => lifted os started H enc)

/-- The statement. -/
theorem proved : Rows.FnMergeSaid := over
#print axioms proved
end Go.Proofs.Ytkjolmbcafonaaa.FnMerge
