/- The law FnExactRingNew: RingNew returns what the reference returns, leaves its argument as it was, and hands back memory of its own. Proved for every input, no condition: the law's Go function returns true, and each argument reads afterwards as it read before. -/
import Derived.Test.YtmhneigglmingaaSeat
import Derived.Test.YtmhneigglmingaaRnew
import Derived.Test.YtmhneigglmingaaNodeH
import Derived.WalkKit
import Derived.ProofKit
import Derived.OpenShut
import Derived.ShutString
import Derived.ChangeOld
import Derived.Below
namespace Go.Proofs.Ytmhneigglmingaa.FnExactRingNew
open Go.ChangeShapes Go.WideShapes Go.ChangeAt Go.RowKit
open Go.ChangeMaps (open_string shut_string)
set_option linter.unusedVariables false
set_option maxHeartbeats 400000

theorem ideal_fits (xs : List Int) : fits (rnw xs) := by
  intro x hx
  unfold rnw at hx
  split at hx
  · unfold ideal idTo at hx
    obtain ⟨k, _, rfl⟩ := List.mem_map.1 hx
    simp [idn]
  · simp at hx
theorem rnw_le (xs : List Int) : (rnw xs).length ≤ 64 := by
  unfold rnw; split
  · rename_i h
    unfold rok at h
    simp only [Bool.and_eq_true] at h
    rw [ideal_len]; have := (nval_len h.1).2; omega
  · simp
set_option maxHeartbeats 4000000 in
theorem walk (A : Option Addr) (c : Nat) (xs : List Int) (w : World) (w0 : Arg .i64 w A c xs) : Calls Try.prog 4 #[.slice A xs.length c] w fun e w' => e = .returned (.bool true) ∧ Below w.heap.size w w' := by
  obtain ⟨hl, hc, hn, -⟩ := w0
  by_cases hbig : 1048576 < xs.length
  · clear hn
    unfold maxLen at hc
    go_enter Try.func4, Try.ntmps4
    go_wp2
    go_ret
    exact ⟨rfl, Below.refl _ _⟩
  · have hlen : xs.length ≤ 1048576 := by omega
    have hmax : xs.length ≤ maxLen := by unfold maxLen; omega
    have hsm : ¬ (1048576 : Int) < (xs.length : Int) := by omega
    have C1 := fun (w1 : World) (h1 : Below w.heap.size w w1) => Lib.hid (toIntS_any w.heap.size A c xs hlen w1 h1.size (hn.below h1))
    have C2 := fun (w1 : World) (A' : Option Addr) (h1 : NumsAt .i64 w1 w1.heap.size A' xs) => Lib.hid (rn_spec w1.heap.size A' xs.length xs hmax w1 (Nat.le_refl _) h1)
    have C3 := fun (w1 : World) (A' : Option Addr) (h1 : NumsAt .i64 w1 w1.heap.size A' xs) => Lib.hid (rn_impl w1.heap.size A' xs.length xs hmax w1 (Nat.le_refl _) h1)
    have C4 := fun (w1 : World) (B : Nat) (A' A'' : Option Addr) (h1 : NumsAt .i64 w1 B A' xs) (h2 : NumsAt .i64 w1 B A'' xs) => Lib.hid (eqIntS_any B A' A'' xs.length xs.length xs xs hmax hmax w1 h1 h2)
    unfold RnRet at C2 C3
    have hvl := rnw_le xs
    have hvf := ideal_fits xs
    generalize rok xs = ok at C2 C3
    generalize rnw xs = vs at C2 C3 hvl hvf
    have hvs : vs.length ≤ 1048576 := by omega
    have C5 := fun (w1 : World) (c1 c2 : Nat) (A' A'' : Option Addr) (h1 : NodAt w1 w1.heap.size A' vs) (h2 : NodAt w1 w1.heap.size A'' vs) => Lib.hid (eqNodeS_same A' A'' c1 c2 vs hvs hvf w1 h1 h2)
    have C6 := fun (w1 : World) (base : Nat) (A' : Option Addr) (c' : Nat) (h1 : OwnI w1 base A' c' xs) => Lib.hid (mark_any base A' c' xs 1 (by omega) (by omega) hlen w1 h1)
    have C8 := fun (w1 : World) (base hi : Nat) (hlo : base ≤ w1.heap.size) (A' : Option Addr) (c' : Nat) (h1 : RowIn w1 base hi A' c' vs) => Lib.hid (markNode_any base hi A' c' vs 1 (by omega) (by omega) hvs hvf w1 hlo h1)
    have C7 := fun (w1 : World) (A' : Option Addr) (c' : Nat) (h1 : NodAt w1 w1.heap.size A' (mkN 1 vs)) => Lib.hid (heldNode_any w1.heap.size A' c' vs 1 (by omega) (by omega) hvs hvf w1 h1)
    have hsum := sum_nonneg vs
    generalize sumN vs = sm at C7 C8 hsum
    have hk8 : ¬ (1 + sm < 0) := by omega
    clear hn hbig hmax hvf hsum
    have hc' : xs.length ≤ 1048576 := hlen
    clear hl hc
    go_enter Try.func4, Try.ntmps4
    go_wp2_with fail
    refine ((C1 w (Below.refl _ _)).out).mono ?_; rintro e w1 ⟨rfl, ho1, hb1⟩
    go_wp2_with fail
    refine ((C2 w1 _ ho1.nums).out).mono ?_; rintro e w2 ⟨⟨A0, c0, rfl, hw0⟩, hb2⟩
    have hB2 := below_next hb1 hb2
    have hW := hw0.nod
    clear ho1 hw0
    go_wp2_with fail
    refine ((C1 w2 hB2).out).mono ?_; rintro e w3 ⟨rfl, ho3, hb3⟩
    have hB3 := below_next hB2 hb3
    replace hW := hW.below hb3
    have hlt3 : w2.heap.size < w3.heap.size := by
      rcases ho3.form with ⟨h, _⟩ | ⟨g, h, _, h2⟩
      · cases h
      · injection h with h; injection h with h; omega
    go_wp2_with fail
    refine ((C3 w3 _ ho3.nums).out).mono ?_; rintro e w4 ⟨⟨A4, c4, rfl, hg0⟩, hb4⟩
    have hg := hg0.in_
    clear hg0
    have hB4 := below_next hB3 hb4
    replace hW := hW.below (hb4.mono (Nat.le_of_lt hlt3))
    replace ho3 := ho3.below hb4 (Nat.le_refl _)
    have h34 := hb4.size
    go_wp2_with fail
    refine ((C5 w4 _ _ _ _ hg.row.nod (hW.more (by omega))).out).mono ?_; rintro e w5 ⟨rfl, hb5⟩
    have hB5 := below_next hB4 hb5
    have h45 := hb5.size
    replace hW := hW.below (hb5.mono (by omega))
    replace ho3 := ho3.below hb5 (Nat.le_refl _)
    replace hg := hg.below hb5 (Nat.le_refl _)
    go_wp2_with fail
    refine ((C1 w5 hB5).out).mono ?_; rintro e w6 ⟨rfl, ho6, hb6⟩
    have hB6 := below_next hB5 hb6
    have h56 := hb6.size
    replace hW := hW.below (hb6.mono (by omega))
    replace ho3 := ho3.below hb6 (Nat.le_refl _)
    replace hg := hg.below hb6 (Nat.le_refl _)
    go_wp2_with fail
    refine ((C4 w6 w6.heap.size _ _ ho3.nums ho6.nums).out).mono ?_; rintro e w7 ⟨rfl, hb7⟩
    have hB7 := below_next hB6 hb7
    have h67 := hb7.size
    replace hW := hW.below (hb7.mono (by omega))
    replace ho3 := ho3.below hb7 (Nat.le_refl _)
    replace hg := hg.below hb7 (Nat.le_refl _)
    clear ho6 hb1 hb2 hb3 hb4 hb5 hb6 hb7
    go_wp2_with fail
    refine ((C6 w7 _ _ _ ho3).out).mono ?_; rintro e w8 ⟨rfl, ho8, hg8⟩
    have hsz8 := hg8.size
    have ha8 : Among w2.heap.size w3.heap.size w7 w8 := (Among.refl _ _ _).grown hg8 (Nat.le_refl _) hlt3 (by omega)
    have hW8 := ha8.1
    have hB8 : Below w.heap.size w w8 := hB7.trans (hW8.mono hB2.size)
    replace hW := hW.below hW8
    replace hg := hg.among ha8 (Nat.le_refl _)
    clear ho3 ho8 hg8 ha8 hW8 hB7
    go_wp2_with fail
    refine ((C5 w8 _ _ _ _ hg.row.nod (hW.more (by omega))).out).mono ?_; rintro e w9 ⟨rfl, hb9⟩
    have hB9 := below_next hB8 hb9
    have h89 := hb9.size
    replace hW := hW.below (hb9.mono (by omega))
    replace hg := hg.below hb9 (Nat.le_refl _)
    clear hb9 hB8
    go_wp2_with fail
    refine ((C8 w9 _ _ (by omega) _ _ hg).out).mono ?_; rintro e w10 ⟨rfl, ho10, ha10⟩
    have hsz10 := ha10.1.size
    have hW10 : Below w2.heap.size w9 w10 := ha10.1.mono (Nat.le_of_lt hlt3)
    have hB10 : Below w.heap.size w w10 := hB9.trans (hW10.mono hB2.size)
    replace hW := hW.below hW10
    clear hg ha10 hW10 hB9
    go_wp2_with fail
    refine ((C7 w10 _ _ ho10.row.nod).out).mono ?_; rintro e w11 ⟨rfl, hd11⟩
    have hb11 := below_draw hd11
    have h1011 := hb11.size
    have hB11 := below_next hB10 hb11
    replace hW := hW.below (hb11.mono (by omega))
    replace ho10 := ho10.below hb11 (Nat.le_refl _)
    clear hd11 hb11 hB10
    go_wp2_with fail
    refine ((C1 w11 hB11).out).mono ?_; rintro e w12 ⟨rfl, ho12, hb12⟩
    have hB12 := below_next hB11 hb12
    have h1112 := hb12.size
    replace hW := hW.below (hb12.mono (by omega))
    replace ho10 := ho10.below hb12 (Nat.le_refl _)
    clear hb12 hB11
    go_wp2_with fail
    refine ((C3 w12 _ ho12.nums).out).mono ?_; rintro e w13 ⟨⟨A13, c13, rfl, hg13⟩, hb13⟩
    have hB13 := below_next hB12 hb13
    have h1213 := hb13.size
    replace hW := hW.below (hb13.mono (by omega))
    replace ho10 := ho10.below hb13 (Nat.le_refl _)
    clear hb13 hB12 ho12
    go_wp2_with fail
    refine ((C5 w13 _ _ _ _ hg13.nod (hW.more (by omega))).out).mono ?_; rintro e w14 ⟨rfl, hb14⟩
    have hB14 := below_next hB13 hb14
    replace ho10 := ho10.below hb14 (Nat.le_refl _)
    clear hb14 hB13 hg13
    go_wp2_with fail
    refine ((C7 w14 _ _ ho10.row.nod).out).mono ?_; rintro e w15 ⟨rfl, hd15⟩
    have hB15 := below_next hB14 (below_draw hd15)
    go_wp2
    go_ret
    exact ⟨rfl, hB15⟩

set_option maxRecDepth 100000 in
theorem lifted (os : Os) (started : os.Started) (H : Type) (enc : TypeId × Value → H) :
    ReturnsInHanded {} Try.checked os 4 .any (Rows.fnExactRingNewSpec.pre6 enc Try.prog Try.f4 Rows.fnExactRingNewRow.domain false) (Rows.fnExactRingNewSpec.post enc Try.prog Try.f4 false true false false) := by
  refine returnsInHanded_of_change (C := Try.checked) own started (by kernel_rfl) Try.func4
    (ChangeSpec.witness6 (enc := enc) (C := Try.checked) false ⟨#[], #[.slice none 0 0], []⟩ 8 (by kernel_rfl) (by kernel_rfl) (by kernel_rfl) (by kernel_rfl)) ?_
  intro W base args ds gs before hval0 hW hcnd _
  have hval : ∀ (j : Nat) t v, Try.f4.params[j]? = some t → args[j]? = some v → Value.okWide Try.prog W .any base t v := hval0
  have hW' := hW
  obtain ⟨p, q, hA0, hV, rfl, hfz, hnd⟩ := hW
  have hA : DataW.TrodAll enc Try.prog W 0 (fun _ => true) true Try.f4.params.toList args.toList ds p := hA0
  rw [Try.params4] at hA hval
  obtain ⟨v0, vs0, d0, ds0, p0, q0, hargs, rfl, rfl, h0, r0⟩ := trodAll_cons hA
  obtain ⟨rfl, rfl, rfl⟩ := trodAll_nil r0
  obtain rfl : args = #[v0] := by cases args; simp_all
  obtain ⟨rfl, rfl⟩ := trodVars_none hV
  obtain ⟨A0, len0, c0, rfl⟩ := okWide_slice Try.underlying29 (hval 0 29 v0 rfl rfl)
  have k0 := h0
  have lt0 : ∀ x ∈ p0, x.block < W.heap.size := by obtain ⟨m, hm⟩ := k0; exact DataW.trod_lt m _ _ _ hm
  obtain ⟨xs0, rfl, w0⟩ : ∃ xs : List Int, xs.length = len0 ∧ Arg .i64 W A0 c0 xs := by
    obtain ⟨fuel, hf⟩ := h0
    rcases open_ints Try.underlying29 Try.underlying3 (by kernel_rfl) hf with ⟨hcs, _⟩ | ⟨x, l, c, zs, hcs, _, hl, hm, hz, _, hcell, hwz⟩
    · simp [Value.cells] at hcs
      obtain ⟨rfl, rfl, rfl⟩ := hcs
      exact Arg.none_
    · simp [Value.cells] at hcs
      obtain ⟨rfl, rfl, rfl⟩ := hcs
      exact Arg.row hl hm (by simpa using hz) hcell hwz
  clear hA0 hval0
  refine (walk A0 c0 xs0 W w0).mono fun e W' ⟨he, bel⟩ => ?_
  subst he
  exact ⟨_, rfl, _, _, _, [], _, [], hW', trodAll_mk1 (shut_bool Try.underlying4 _), (trodAll_cons_mk (Below.trod laidOut (by kernel_rfl) (of_decide_eq_true (by kernel_rfl)) k0 bel lt0) trodAll_mk0), rfl, bel.frame _, fun h => by cases h⟩

theorem nm : Try.f4.name = Rows.fnExactRingNewRow.func := by kernel_rfl
theorem notMain : decide (Check.packageOf Rows.fnExactRingNewRow.func = "main") = false := by kernel_rfl
theorem noWrapper : Func.isWrapper Try.prog Try.f4 Rows.fnExactRingNewRow.wrapper Rows.fnExactRingNewRow.mainSum := by
  unfold Func.isWrapper; rw [nm, if_neg (of_decide_eq_false notMain)]; exact ⟨rfl, rfl⟩
theorem closed : joinedFacts Try.prog 4 Try.f4 Rows.fnExactRingNewSpec Rows.fnExactRingNewRow = true := by
  unfold joinedFacts
  exact (andI (andI (andI (andI (andI (andI (andI (andI (andI (andI (andI (andI (andI (andI (andI (andI (andI (andI (andI (andI (andI (andI (andI (andI (andI (andI (andI (andI (andI (andI (andI (by kernel_rfl) laidOut) rowed) (by kernel_rfl)) (by kernel_rfl)) (by kernel_rfl)) (by kernel_rfl)) (by kernel_rfl)) (by kernel_rfl)) (by kernel_rfl)) (by kernel_rfl)) (by kernel_rfl)) (by kernel_rfl)) (by kernel_rfl)) (by kernel_rfl)) (by kernel_rfl)) (by kernel_rfl)) (by kernel_rfl)) (by kernel_rfl)) (by kernel_rfl)) (by kernel_rfl)) (by kernel_rfl)) (by rw [plain_keys]; kernel_rfl)) (by kernel_rfl)) heard) mayEnter) (by rw [liftsFinal]; kernel_rfl)) (by rw [makeCut]; kernel_rfl)) (by kernel_rfl)) (by kernel_rfl)) (by kernel_rfl)) (by kernel_rfl))
theorem noInstance : decide (Func.isInstance Try.prog Try.f4 Rows.fnExactRingNewRow.origin Rows.fnExactRingNewRow.targs) = true := by kernel_rfl
theorem named : Try.prog.funcNamed Rows.fnExactRingNewRow.func = some 4 := by kernel_rfl
theorem over : Rows.fnExactRingNewRow.holds Try.pinned (OpenSpec.ofChange Rows.fnExactRingNewSpec) :=
  OpenClaim.holds_of_wide 4 Try.f4 rfl rfl rfl rfl rfl rfl rfl ⟨rfl, rfl, rfl, rfl, rfl⟩ rfl rfl rfl rfl rfl named Try.func4 closed
    (of_decide_eq_true noInstance) noWrapper
    (fun os started H enc _ => lifted os started H enc)

/-- The statement. -/
theorem proved : Rows.FnExactRingNewSaid := over
#print axioms proved
end Go.Proofs.Ytmhneigglmingaa.FnExactRingNew
