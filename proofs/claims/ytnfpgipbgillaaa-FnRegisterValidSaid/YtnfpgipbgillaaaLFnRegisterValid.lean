/- The law FnRegisterValid: a version of a writer has one value. Proved for every input, no condition: the law's Go function returns true, and each argument reads afterwards as it read before. -/
import Derived.Test.YtnfpgipbgillaaaSeat
import Derived.Test.YtnfpgipbgillaaaDrawR
import Derived.Test.YtnfpgipbgillaaaLatP
import Derived.WalkKit
import Derived.ProofKit
import Derived.OpenShut
import Derived.ShutString
import Derived.ChangeOld
import Derived.Below
namespace Go.Proofs.Ytnfpgipbgillaaa.FnRegisterValid
open Go.ChangeShapes Go.WideShapes Go.ChangeAt Go.RowKit
open Go.ChangeMaps (open_string shut_string)
set_option linter.unusedVariables false
set_option maxHeartbeats 400000

set_option maxHeartbeats 4000000 in
theorem walk (A : Option Addr) (c : Nat) (xs : List Int) (w : World) (w0 : Arg .u8 w A c xs) : Calls Try.prog 4 #[.slice A xs.length c] w fun e w' => e = .returned (.bool true) ∧ Below w.heap.size w w' := by
  have HO := Lib.hid (drawRv_any A c xs w w0)
  obtain ⟨hl, hc, -, -⟩ := w0
  unfold maxLen at hc
  by_cases hbig : 1048576 < xs.length
  · go_enter Try.func4, Try.ntmps4
    go_wp2
    go_ret
    exact ⟨rfl, Below.refl _ _⟩
  have hsm : xs.length ≤ 1048576 := by omega
  clear hbig hl hc
  go_enter Try.func4, Try.ntmps4
  go_wp2_with fail
  refine HO.out.mono ?_; rintro e w1 ⟨A1, c1, ys, rfl, ho, hy10, hB⟩
  clear HO
  obtain ⟨hlc, hcm⟩ := ho.len
  have h1 := Lib.hid (rv_impl w1.heap.size A1 c1 ys hlc hcm w1 (Nat.le_refl _) ho.tris)
  have HS := fun (W : World) (h : OwnT W w.heap.size A1 c1 ys) => Lib.hid (rv_spec W.heap.size A1 c1 ys hlc hcm W (Nat.le_refl _) h.tris)
  cases hv : regVal ys
  · rw [hv] at h1 HS
    go_wp2_with fail
    refine h1.out.mono ?_; rintro e w2 ⟨rfl, hb2⟩
    have h2 := HS w2 (ho.below hb2 (Nat.le_refl _))
    replace hB := below_next hB hb2
    clear h1 HS ho hb2
    go_wp2_with fail
    refine h2.out.mono ?_; rintro e w3 ⟨rfl, hb3⟩
    go_wp2
    go_ret
    exact ⟨rfl, below_next hB hb3⟩
  · rw [hv] at h1 HS
    obtain ⟨hl1, hl5⟩ := reg_len hv
    have HOK := Lib.hid (fun (i : Nat) (x : Tri) (hx : ys[i]? = some x) => reg_ok hv hx)
    have HPA := Lib.hid (fun (i k : Nat) (x y : Tri) (hk : k < i) (hx : ys[i]? = some x) (hy : ys[k]? = some y) => reg_pair hv hk hx hy)
    clear hv
    go_wp2_with fail
    refine h1.out.mono ?_; rintro e w2 ⟨rfl, hb2⟩
    replace ho := ho.below hb2 (Nat.le_refl _)
    have h2 := HS w2 ho
    replace hB := below_next hB hb2
    clear h1 HS hb2
    go_wp2_with fail
    refine h2.out.mono ?_; rintro e w3 ⟨rfl, hb3⟩
    replace ho := ho.below hb3 (Nat.le_refl _)
    replace hB := below_next hB hb3
    have HO1 := Lib.hid ho
    clear h2 hb3 ho
    go_wp2_with fail
    go_loopw [6] (fun i wr => ∃ k : Nat, k ≤ ys.length ∧ i = .int .i64 k ∧ OwnT wr w.heap.size A1 c1 ys ∧ Below w.heap.size w wr) (fun i _ => ys.length - (intOf i).toNat)
    case atStart => exact ⟨0, Nat.zero_le _, rfl, HO1.out, hB⟩
    case round =>
      clear HO1 hB
      obtain ⟨i, hi, rfl, ho, hB⟩ := hrel
      by_cases hlt : i < ys.length
      · obtain ⟨g, rfl⟩ := ho.some_ (by omega)
        obtain ⟨x, hx⟩ : ∃ x, ys[i]? = some x := ⟨_, List.getElem?_eq_getElem hlt⟩
        obtain ⟨q1, q2, q3⟩ := ho.at_ hx
        have hok := HOK.out i x hx
        obtain ⟨x1, x2, x3⟩ := x
        simp only at q1 q2 q3 hok
        have HO := Lib.hid ho
        have HX := Lib.hid hx
        have hil : (i : Int) < (ys.length : Int) := by omega
        clear ho hx
        by_cases h0 : x1 = 0
        · obtain ⟨rfl, rfl⟩ := reg_zero hok h0
          subst h0
          clear hok
          go_wp2_with fail
          go_loopw [7] (fun j w7 => ∃ k : Nat, k ≤ i ∧ j = .int .i64 k ∧ OwnT w7 w.heap.size (some ⟨g, 0, none⟩) c1 ys ∧ Below w.heap.size w w7) (fun j _ => i - (intOf j).toNat)
          case atStart => exact ⟨0, Nat.zero_le _, rfl, HO.out, hB⟩
          case round =>
            rename World => w7
            clear HO hB q1 q2 q3
            obtain ⟨k, hk, rfl, ho, hB⟩ := hrel
            by_cases hlt2 : k < i
            · obtain ⟨y, hy⟩ : ∃ y, ys[k]? = some y := ⟨_, List.getElem?_eq_getElem (by omega)⟩
              obtain ⟨d1, d2, d3⟩ := ho.at_ hy
              obtain ⟨q1, q2, q3⟩ := ho.at_ HX.out
              have hp := HPA.out i k _ y hlt2 HX.out hy
              obtain ⟨y1, y2, y3⟩ := y
              simp only at d1 d2 d3 q1 q2 q3 hp
              have HO := Lib.hid ho
              have hkl : (k : Int) < (ys.length : Int) := by omega
              clear ho hy
              by_cases e1 : y1 = 0
              · by_cases e2 : y2 = 0
                · have e3 := hp e1 e2
                  injection e3 with e4 e5
                  injection e5 with e5 e6
                  subst e4 e5 e6
                  clear e1 e2 hp
                  go_wp2_with fail
                  go_quiet (fail)
                  go_wp2
                  go_roundw
                  case rel => exact ⟨k + 1, by omega, by go_num, HO.out.drewN _, ⟨hB.os, hB.tape, hB.output, hB.size, hB.block⟩⟩
                  case measure => simp [intOf]; omega
                · have e1b : (y1 == 0) = true := by simpa using e1
                  have e2b : (y2 == 0) = false := by rw [beq_eq_false_iff_ne]; exact e2
                  clear hp e2 e1
                  go_wp2_with fail
                  go_quiet (fail)
                  go_wp2
                  go_roundw
                  case rel => exact ⟨k + 1, by omega, by go_num, HO.out.drewN _, ⟨hB.os, hB.tape, hB.output, hB.size, hB.block⟩⟩
                  case measure => simp [intOf]; omega
              · have e1b : (y1 == 0) = false := by rw [beq_eq_false_iff_ne]; exact e1
                clear hp e1
                go_wp2_with fail
                go_quiet (fail)
                go_wp2
                go_roundw
                case rel => exact ⟨k + 1, by omega, by go_num, HO.out.drewN _, ⟨hB.os, hB.tape, hB.output, hB.size, hB.block⟩⟩
                case measure => simp [intOf]; omega
            · have hlen : True := trivial
              go_wp2
              go_roundw
              case rel => exact ⟨i + 1, by omega, by go_num, ho, hB⟩
              case measure => simp [intOf]; omega
        · have h0b : (x1 == 0) = false := by rw [beq_eq_false_iff_ne]; exact h0
          clear hok h0
          go_wp2_with fail
          go_loopw [7] (fun j w7 => ∃ k : Nat, k ≤ i ∧ j = .int .i64 k ∧ OwnT w7 w.heap.size (some ⟨g, 0, none⟩) c1 ys ∧ Below w.heap.size w w7) (fun j _ => i - (intOf j).toNat)
          case atStart => exact ⟨0, Nat.zero_le _, rfl, HO.out, hB⟩
          case round =>
            rename World => w7
            clear HO hB q1 q2 q3
            obtain ⟨k, hk, rfl, ho, hB⟩ := hrel
            by_cases hlt2 : k < i
            · obtain ⟨y, hy⟩ : ∃ y, ys[k]? = some y := ⟨_, List.getElem?_eq_getElem (by omega)⟩
              obtain ⟨d1, d2, d3⟩ := ho.at_ hy
              obtain ⟨q1, q2, q3⟩ := ho.at_ HX.out
              have hp := HPA.out i k _ y hlt2 HX.out hy
              obtain ⟨y1, y2, y3⟩ := y
              simp only at d1 d2 d3 q1 q2 q3 hp
              have HO := Lib.hid ho
              have hkl : (k : Int) < (ys.length : Int) := by omega
              clear ho hy
              by_cases e1 : y1 = x1
              · by_cases e2 : y2 = x2
                · have e3 := hp e1 e2
                  injection e3 with e4 e5
                  injection e5 with e5 e6
                  subst e4 e5 e6
                  clear e1 e2 hp
                  go_wp2_with fail
                  go_quiet (fail)
                  go_wp2
                  go_roundw
                  case rel => exact ⟨k + 1, by omega, by go_num, HO.out.drewN _, ⟨hB.os, hB.tape, hB.output, hB.size, hB.block⟩⟩
                  case measure => simp [intOf]; omega
                · have e1b : (y1 == x1) = true := by simpa using e1
                  have e2b : (y2 == x2) = false := by rw [beq_eq_false_iff_ne]; exact e2
                  clear hp e2 e1
                  go_wp2_with fail
                  go_quiet (fail)
                  go_wp2
                  go_roundw
                  case rel => exact ⟨k + 1, by omega, by go_num, HO.out.drewN _, ⟨hB.os, hB.tape, hB.output, hB.size, hB.block⟩⟩
                  case measure => simp [intOf]; omega
              · have e1b : (y1 == x1) = false := by rw [beq_eq_false_iff_ne]; exact e1
                clear hp e1
                go_wp2_with fail
                go_quiet (fail)
                go_wp2
                go_roundw
                case rel => exact ⟨k + 1, by omega, by go_num, HO.out.drewN _, ⟨hB.os, hB.tape, hB.output, hB.size, hB.block⟩⟩
                case measure => simp [intOf]; omega
            · have hlen : True := trivial
              go_wp2
              go_roundw
              case rel => exact ⟨i + 1, by omega, by go_num, ho, hB⟩
              case measure => simp [intOf]; omega
      · have hl : (ys.length : Int) ≤ 5 := by omega
        go_wp2
        go_ret
        exact ⟨rfl, hB⟩

set_option maxRecDepth 100000 in
theorem lifted (os : Os) (started : os.Started) (H : Type) (enc : TypeId × Value → H) :
    ReturnsInHanded {} Try.checked os 4 .any (Rows.fnRegisterValidSpec.pre6 enc Try.prog Try.f4 Rows.fnRegisterValidRow.domain false) (Rows.fnRegisterValidSpec.post enc Try.prog Try.f4 false true false false) := by
  refine returnsInHanded_of_change (C := Try.checked) own started (by kernel_rfl) Try.func4
    (ChangeSpec.witness6 (enc := enc) (C := Try.checked) false ⟨#[], #[.slice none 0 0], []⟩ 8 (by kernel_rfl) (by kernel_rfl) (by kernel_rfl) (by kernel_rfl)) ?_
  intro W base args ds gs before hval0 hW hcnd _
  have hval : ∀ (j : Nat) t v, Try.f4.params[j]? = some t → args[j]? = some v → Value.okWide Try.prog W .any base t v := hval0
  have hW' := hW
  obtain ⟨p, q, hA0, hV, rfl, hfz, hnd⟩ := hW
  have hA : DataW.TrodAll enc Try.prog W 0 (fun _ => true) true Try.f4.params.toList args.toList ds p := hA0
  rw [Try.params4] at hA hval
  obtain ⟨v0, vs0, d0, ds0, p0, q0, hargs, rfl, rfl, h0, r0⟩ := trodAll_cons hA
  obtain ⟨rfl, rfl, rfl⟩ := trodAll_nil r0
  obtain rfl : args = #[v0] := by cases args; simp_all
  obtain ⟨rfl, rfl⟩ := trodVars_none hV
  obtain ⟨A0, len0, c0, rfl⟩ := okWide_slice Try.underlying29 (hval 0 29 v0 rfl rfl)
  have k0 := h0
  have lt0 : ∀ x ∈ p0, x.block < W.heap.size := by obtain ⟨m, hm⟩ := k0; exact DataW.trod_lt m _ _ _ hm
  obtain ⟨xs0, rfl, w0⟩ : ∃ xs : List Int, xs.length = len0 ∧ Arg .u8 W A0 c0 xs := by
    obtain ⟨fuel, hf⟩ := h0
    rcases open_ints Try.underlying29 Try.underlying5 (by kernel_rfl) hf with ⟨hcs, _⟩ | ⟨x, l, c, zs, hcs, _, hl, hm, hz, _, hcell, hwz⟩
    · simp [Value.cells] at hcs
      obtain ⟨rfl, rfl, rfl⟩ := hcs
      exact Arg.none_
    · simp [Value.cells] at hcs
      obtain ⟨rfl, rfl, rfl⟩ := hcs
      exact Arg.row hl hm (by simpa using hz) hcell hwz
  clear hA0 hval0
  refine (walk A0 c0 xs0 W w0).mono fun e W' ⟨he, bel⟩ => ?_
  subst he
  exact ⟨_, rfl, _, _, _, [], _, [], hW', trodAll_mk1 (shut_bool Try.underlying4 _), (trodAll_cons_mk (Below.trod laidOut (by kernel_rfl) (of_decide_eq_true (by kernel_rfl)) k0 bel lt0) trodAll_mk0), rfl, bel.frame _, fun h => by cases h⟩

theorem nm : Try.f4.name = Rows.fnRegisterValidRow.func := by kernel_rfl
theorem notMain : decide (Check.packageOf Rows.fnRegisterValidRow.func = "main") = false := by kernel_rfl
theorem noWrapper : Func.isWrapper Try.prog Try.f4 Rows.fnRegisterValidRow.wrapper Rows.fnRegisterValidRow.mainSum := by
  unfold Func.isWrapper; rw [nm, if_neg (of_decide_eq_false notMain)]; exact ⟨rfl, rfl⟩
theorem closed : joinedFacts Try.prog 4 Try.f4 Rows.fnRegisterValidSpec Rows.fnRegisterValidRow = true := by
  unfold joinedFacts
  exact (andI (andI (andI (andI (andI (andI (andI (andI (andI (andI (andI (andI (andI (andI (andI (andI (andI (andI (andI (andI (andI (andI (andI (andI (andI (andI (andI (andI (andI (andI (andI (by kernel_rfl) laidOut) rowed) (by kernel_rfl)) (by kernel_rfl)) (by kernel_rfl)) (by kernel_rfl)) (by kernel_rfl)) (by kernel_rfl)) (by kernel_rfl)) (by kernel_rfl)) (by kernel_rfl)) (by kernel_rfl)) (by kernel_rfl)) (by kernel_rfl)) (by kernel_rfl)) (by kernel_rfl)) (by kernel_rfl)) (by kernel_rfl)) (by kernel_rfl)) (by kernel_rfl)) (by kernel_rfl)) (by rw [plain_keys]; kernel_rfl)) (by kernel_rfl)) heard) mayEnter) (by rw [liftsFinal]; kernel_rfl)) (by rw [makeCut]; kernel_rfl)) (by kernel_rfl)) (by kernel_rfl)) (by kernel_rfl)) (by kernel_rfl))
theorem noInstance : decide (Func.isInstance Try.prog Try.f4 Rows.fnRegisterValidRow.origin Rows.fnRegisterValidRow.targs) = true := by kernel_rfl
theorem named : Try.prog.funcNamed Rows.fnRegisterValidRow.func = some 4 := by kernel_rfl
theorem over : Rows.fnRegisterValidRow.holds Try.pinned (OpenSpec.ofChange Rows.fnRegisterValidSpec) :=
  OpenClaim.holds_of_wide 4 Try.f4 rfl rfl rfl rfl rfl rfl rfl ⟨rfl, rfl, rfl, rfl, rfl⟩ rfl rfl rfl rfl rfl named Try.func4 closed
    (of_decide_eq_true noInstance) noWrapper
    (fun os started H enc _ => lifted os started H enc)

/-- The statement. -/
theorem proved : Rows.FnRegisterValidSaid := over
#print axioms proved
end Go.Proofs.Ytnfpgipbgillaaa.FnRegisterValid
