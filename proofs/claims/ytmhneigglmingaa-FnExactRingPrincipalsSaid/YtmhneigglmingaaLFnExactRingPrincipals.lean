/- The law FnExactRingPrincipals: RingPrincipals returns what the reference returns, leaves its argument as it was, and hands back memory of its own. Proved for every input, no condition: the law's Go function returns true, and each argument reads afterwards as it read before. -/
import Derived.Test.YtmhneigglmingaaSeat
import Derived.Test.YtmhneigglmingaaPri
import Derived.WalkKit
import Derived.ProofKit
import Derived.OpenShut
import Derived.ShutString
import Derived.ChangeOld
import Derived.Below
namespace Go.Proofs.Ytmhneigglmingaa.FnExactRingPrincipals
open Go.ChangeShapes Go.WideShapes Go.ChangeAt Go.RowKit
open Go.ChangeMaps (open_string shut_string)
set_option linter.unusedVariables false
set_option maxHeartbeats 400000

set_option maxHeartbeats 4000000 in
theorem walk (A : Option Addr) (c : Nat) (xs : List Nod) (w : World) (w0 : ArgN w A c xs) : Calls Try.prog 6 #[.slice A xs.length c] w fun e w' => e = .returned (.bool true) ∧ Below w.heap.size w w' := by
  obtain ⟨hl, hc, hn⟩ := w0
  have H0 := Lib.hid (szNodes_any w.heap.size A c xs hl hc w (Nat.le_refl _) hn)
  by_cases hin : ¬ (xs.length ≤ 1048576 ∧ fits xs)
  · clear hn
    go_enter Try.func6, Try.ntmps6
    go_wp2_with fail
    refine (H0.out).mono ?_; rintro e w1 ⟨⟨r, rfl, hr⟩, hb0⟩
    have hneg : r < 0 := by rcases hr with h | h; exact h; exact absurd h hin
    clear hr hin
    go_wp2
    go_ret
    exact ⟨rfl, hb0⟩
  · obtain ⟨hlen, hfit⟩ := Classical.not_not.1 hin
    have hmax : xs.length ≤ maxLen := by unfold maxLen; omega
    have C1 := fun (w1 : World) (h1 : Below w.heap.size w w1) => Lib.hid (toNodeS_any w.heap.size A c xs hlen hfit w1 h1.size (hn.below h1))
    have C2 := fun (w1 : World) (A' : Option Addr) (h1 : NodAt w1 w1.heap.size A' xs) => Lib.hid (rpr_spec w1.heap.size A' xs.length xs (Nat.le_refl _) hmax w1 (Nat.le_refl _) h1)
    have C3 := fun (w1 : World) (A' : Option Addr) (h1 : NodAt w1 w1.heap.size A' xs) => Lib.hid (rpr_impl w1.heap.size A' xs.length xs (Nat.le_refl _) hmax w1 (Nat.le_refl _) h1)
    have C4 := fun (w1 : World) (A' A'' : Option Addr) (h1 : NodAt w1 w1.heap.size A' xs) (h2 : NodAt w1 w1.heap.size A'' xs) => Lib.hid (eqNodeS_same A' A'' xs.length xs.length xs hlen hfit w1 h1 h2)
    have hvl := rpr_le xs
    generalize (rpr xs) = vs at C2 C3 hvl
    have hvm : vs.length ≤ maxLen := by unfold maxLen; omega
    have hvs : vs.length ≤ 1048576 := by omega
    have C5 := fun (w1 : World) (B c1 c2 : Nat) (A' A'' : Option Addr) (h1 : NumsAt .i64 w1 B A' vs) (h2 : NumsAt .i64 w1 B A'' vs) => Lib.hid (eqIntS_any B A' A'' c1 c2 vs vs hvm hvm w1 h1 h2)
    have C6 := fun (w1 : World) (base : Nat) (A' : Option Addr) (c' : Nat) (ys : List Int) (hy : ys.length ≤ 1048576) (h1 : OwnI w1 base A' c' ys) => Lib.hid (mark_any base A' c' ys 1 (by omega) (by omega) hy w1 h1)
    have C8 := fun (w1 : World) (base hi : Nat) (hlo : base ≤ w1.heap.size) (A' : Option Addr) (h1 : RowIn w1 base hi A' xs.length xs) => Lib.hid (markNode_any base hi A' xs.length xs 1 (by omega) (by omega) hlen hfit w1 hlo h1)
    have C7 := fun (w1 : World) (A' : Option Addr) (c' : Nat) (h1 : NumsAt .i64 w1 w1.heap.size A' (upFrom 1 vs.length)) => Lib.hid (held_any w1.heap.size A' c' 1 vs.length (by omega) (by omega) hvs w1 h1)
    have hUL := Lib.hid (upFrom_len 1 vs.length)
    have hsum := sum_nonneg xs
    generalize sumN xs = sm at C8 hsum
    clear hn hin hmax hvm hfit
    have hc' : xs.length ≤ 1048576 := hlen
    clear hl hc
    go_enter Try.func6, Try.ntmps6
    go_wp2_with fail
    refine (H0.out).mono ?_; rintro e w0 ⟨⟨r, rfl, hr⟩, hb0⟩
    by_cases hneg : r < 0
    · clear hr
      go_wp2
      go_ret
      exact ⟨rfl, hb0⟩
    have hneg' : 0 ≤ r := by omega
    clear hr hneg
    go_wp2_with fail
    refine ((C1 w0 hb0).out).mono ?_; rintro e w1 ⟨rfl, ho1, hb1⟩
    replace hb1 := below_next hb0 hb1
    go_wp2_with fail
    refine ((C2 w1 _ ho1.nod).out).mono ?_; rintro e w2 ⟨A0, c0, rfl, hw0, hb2⟩
    have hB2 := below_next hb1 hb2
    have hW := hw0.nums
    clear ho1 hw0
    go_wp2_with fail
    refine ((C1 w2 hB2).out).mono ?_; rintro e w3 ⟨rfl, ho3, hb3⟩
    have hB3 := below_next hB2 hb3
    replace hW := hW.below hb3
    have hlt3 : w2.heap.size < w3.heap.size := by
      rcases ho3.form with ⟨h, _⟩ | ⟨g, h, _, h2, _⟩
      · cases h
      · injection h with h; injection h with h; omega
    replace ho3 := ho3.in_
    go_wp2_with fail
    refine ((C3 w3 _ ho3.row.nod).out).mono ?_; rintro e w4 ⟨A4, c4, rfl, hg, hb4⟩
    have hB4 := below_next hB3 hb4
    replace hW := hW.below (hb4.mono (Nat.le_of_lt hlt3))
    replace ho3 := ho3.below hb4 (Nat.le_refl _)
    have h34 := hb4.size
    go_wp2_with fail
    refine ((C5 w4 w4.heap.size _ _ _ _ hg.nums (hW.more (by omega))).out).mono ?_; rintro e w5 ⟨rfl, hb5⟩
    have hB5 := below_next hB4 hb5
    have h45 := hb5.size
    replace hW := hW.below (hb5.mono (by omega))
    replace ho3 := ho3.below hb5 (Nat.le_refl _)
    replace hg := hg.below hb5 (Nat.le_refl _)
    go_wp2_with fail
    refine ((C1 w5 hB5).out).mono ?_; rintro e w6 ⟨rfl, ho6, hb6⟩
    have hB6 := below_next hB5 hb6
    have h56 := hb6.size
    replace hW := hW.below (hb6.mono (by omega))
    replace ho3 := ho3.below hb6 (Nat.le_refl _)
    replace hg := hg.below hb6 (Nat.le_refl _)
    go_wp2_with fail
    refine ((C4 w6 _ _ ho3.row.nod ho6.nod).out).mono ?_; rintro e w7 ⟨rfl, hb7⟩
    have hB7 := below_next hB6 hb7
    have h67 := hb7.size
    replace hW := hW.below (hb7.mono (by omega))
    replace ho3 := ho3.below hb7 (Nat.le_refl _)
    replace hg := hg.below hb7 (Nat.le_refl _)
    clear ho6 hb1 hb2 hb3 hb4 hb5 hb6 hb7
    go_wp2_with fail
    refine ((C8 w7 w2.heap.size w3.heap.size (by omega) _ ho3).out).mono ?_; rintro e w8 ⟨rfl, ho8, ha8⟩
    have hW8 := ha8.1
    have hsz8 := hW8.size
    have hB8 : Below w.heap.size w w8 := hB7.trans (hW8.mono hB2.size)
    replace hW := hW.below hW8
    replace hg := hg.among ha8 (Nat.le_refl _)
    clear ho3 ho8 ha8 hW8 hB7
    have hk8 : ¬ (1 + sm < 0) := by omega
    go_wp2_with fail
    refine ((C5 w8 w8.heap.size _ _ _ _ hg.nums (hW.more (by omega))).out).mono ?_; rintro e w9 ⟨rfl, hb9⟩
    have hB9 := below_next hB8 hb9
    have h89 := hb9.size
    replace hW := hW.below (hb9.mono (by omega))
    replace hg := hg.below hb9 (Nat.le_refl _)
    clear hb9 hB8
    go_wp2_with fail
    refine ((C6 w9 _ _ _ vs hvs hg).out).mono ?_; rintro e w10 ⟨rfl, ho10, hg10⟩
    have hsz10 := hg10.size
    have hrow := hg.row
    have hW10 : Below w2.heap.size w9 w10 := (Below.refl _ _).grown hg10 (by omega) (fun k e => by have := hrow k e; omega)
    have hB10 : Below w.heap.size w w10 := hB9.trans (hW10.mono hB2.size)
    replace hW := hW.below hW10
    clear hg hg10 hrow hW10 hB9
    go_wp2_with fail
    refine ((C7 w10 _ _ ho10.nums).out).mono ?_; rintro e w11 ⟨rfl, hd11⟩
    have hb11 := below_draw hd11
    have h1011 := hb11.size
    have hB11 := below_next hB10 hb11
    replace hW := hW.below (hb11.mono (by omega))
    replace ho10 := ho10.below hb11 (Nat.le_refl _)
    clear hd11 hb11 hB10
    go_wp2_with fail
    refine ((C1 w11 hB11).out).mono ?_; rintro e w12 ⟨rfl, ho12, hb12⟩
    have hB12 := below_next hB11 hb12
    have h1112 := hb12.size
    replace hW := hW.below (hb12.mono (by omega))
    replace ho10 := ho10.below hb12 (Nat.le_refl _)
    clear hb12 hB11
    go_wp2_with fail
    refine ((C3 w12 _ ho12.nod).out).mono ?_; rintro e w13 ⟨A13, c13, rfl, hg13, hb13⟩
    have hB13 := below_next hB12 hb13
    have h1213 := hb13.size
    replace hW := hW.below (hb13.mono (by omega))
    replace ho10 := ho10.below hb13 (Nat.le_refl _)
    clear hb13 hB12 ho12
    go_wp2_with fail
    refine ((C5 w13 w13.heap.size _ _ _ _ hg13.nums (hW.more (by omega))).out).mono ?_; rintro e w14 ⟨rfl, hb14⟩
    have hB14 := below_next hB13 hb14
    replace ho10 := ho10.below hb14 (Nat.le_refl _)
    clear hb14 hB13 hg13
    go_wp2_with fail
    refine ((C7 w14 _ _ ho10.nums).out).mono ?_; rintro e w15 ⟨rfl, hd15⟩
    have hB15 := below_next hB14 (below_draw hd15)
    go_wp2
    go_ret
    exact ⟨rfl, hB15⟩

set_option maxRecDepth 100000 in
theorem lifted (os : Os) (started : os.Started) (H : Type) (enc : TypeId × Value → H) :
    ReturnsInHanded {} Try.checked os 6 .any (Rows.fnExactRingPrincipalsSpec.pre6 enc Try.prog Try.f6 Rows.fnExactRingPrincipalsRow.domain false) (Rows.fnExactRingPrincipalsSpec.post enc Try.prog Try.f6 false true false false) := by
  refine returnsInHanded_of_change (C := Try.checked) own started (by kernel_rfl) Try.func6
    (ChangeSpec.witness6 (enc := enc) (C := Try.checked) false ⟨#[], #[.slice none 0 0], []⟩ 8 (by kernel_rfl) (by kernel_rfl) (by kernel_rfl) (by kernel_rfl)) ?_
  intro W base args ds gs before hval0 hW hcnd _
  have hval : ∀ (j : Nat) t v, Try.f6.params[j]? = some t → args[j]? = some v → Value.okWide Try.prog W .any base t v := hval0
  have hW' := hW
  obtain ⟨p, q, hA0, hV, rfl, hfz, hnd⟩ := hW
  have hA : DataW.TrodAll enc Try.prog W 0 (fun _ => true) true Try.f6.params.toList args.toList ds p := hA0
  rw [Try.params6] at hA hval
  obtain ⟨v0, vs0, d0, ds0, p0, q0, hargs, rfl, rfl, h0, r0⟩ := trodAll_cons hA
  obtain ⟨rfl, rfl, rfl⟩ := trodAll_nil r0
  obtain rfl : args = #[v0] := by cases args; simp_all
  obtain ⟨rfl, rfl⟩ := trodVars_none hV
  obtain ⟨A0, len0, c0, rfl⟩ := okWide_slice Try.underlying22 (hval 0 22 v0 rfl rfl)
  have k0 := h0
  have lt0 : ∀ x ∈ p0, x.block < W.heap.size := by obtain ⟨m, hm⟩ := k0; exact DataW.trod_lt m _ _ _ hm
  obtain ⟨xs0, rfl, w0⟩ : ∃ xs : List Nod, xs.length = len0 ∧ ArgN W A0 c0 xs := by
    obtain ⟨fuel, hf⟩ := h0
    rcases open_nodes Try.underlying22 Try.underlying40 (by kernel_rfl) (by kernel_rfl) rfl (fun j hj => match j, hj with | 0, _ => congrArg some Try.underlying3 | 1, _ => congrArg some Try.underlying3 | _ + 2, h => absurd h (by omega)) (congrArg some Try.underlying29) Try.underlying3 (by kernel_rfl) hf with hcs | ⟨x, l, c, zs, hcs, hz, ha⟩
    · simp [Value.cells] at hcs
      obtain ⟨rfl, rfl, rfl⟩ := hcs
      exact ArgN.none_
    · simp [Value.cells] at hcs
      obtain ⟨rfl, rfl, rfl⟩ := hcs
      exact ⟨zs, hz, ha⟩
  clear hA0 hval0
  refine (walk A0 c0 xs0 W w0).mono fun e W' ⟨he, bel⟩ => ?_
  subst he
  exact ⟨_, rfl, _, _, _, [], _, [], hW', trodAll_mk1 (shut_bool Try.underlying4 _), (trodAll_cons_mk (Below.trod laidOut (by kernel_rfl) (of_decide_eq_true (by kernel_rfl)) k0 bel lt0) trodAll_mk0), rfl, bel.frame _, fun h => by cases h⟩

theorem nm : Try.f6.name = Rows.fnExactRingPrincipalsRow.func := by kernel_rfl
theorem notMain : decide (Check.packageOf Rows.fnExactRingPrincipalsRow.func = "main") = false := by kernel_rfl
theorem noWrapper : Func.isWrapper Try.prog Try.f6 Rows.fnExactRingPrincipalsRow.wrapper Rows.fnExactRingPrincipalsRow.mainSum := by
  unfold Func.isWrapper; rw [nm, if_neg (of_decide_eq_false notMain)]; exact ⟨rfl, rfl⟩
theorem closed : joinedFacts Try.prog 6 Try.f6 Rows.fnExactRingPrincipalsSpec Rows.fnExactRingPrincipalsRow = true := by
  unfold joinedFacts
  exact (andI (andI (andI (andI (andI (andI (andI (andI (andI (andI (andI (andI (andI (andI (andI (andI (andI (andI (andI (andI (andI (andI (andI (andI (andI (andI (andI (andI (andI (andI (andI (by kernel_rfl) laidOut) rowed) (by kernel_rfl)) (by kernel_rfl)) (by kernel_rfl)) (by kernel_rfl)) (by kernel_rfl)) (by kernel_rfl)) (by kernel_rfl)) (by kernel_rfl)) (by kernel_rfl)) (by kernel_rfl)) (by kernel_rfl)) (by kernel_rfl)) (by kernel_rfl)) (by kernel_rfl)) (by kernel_rfl)) (by kernel_rfl)) (by kernel_rfl)) (by kernel_rfl)) (by kernel_rfl)) (by rw [plain_keys]; kernel_rfl)) (by kernel_rfl)) heard) mayEnter) (by rw [liftsFinal]; kernel_rfl)) (by rw [makeCut]; kernel_rfl)) (by kernel_rfl)) (by kernel_rfl)) (by kernel_rfl)) (by kernel_rfl))
theorem noInstance : decide (Func.isInstance Try.prog Try.f6 Rows.fnExactRingPrincipalsRow.origin Rows.fnExactRingPrincipalsRow.targs) = true := by kernel_rfl
theorem named : Try.prog.funcNamed Rows.fnExactRingPrincipalsRow.func = some 6 := by kernel_rfl
theorem over : Rows.fnExactRingPrincipalsRow.holds Try.pinned (OpenSpec.ofChange Rows.fnExactRingPrincipalsSpec) :=
  OpenClaim.holds_of_wide 6 Try.f6 rfl rfl rfl rfl rfl rfl rfl ⟨rfl, rfl, rfl, rfl, rfl⟩ rfl rfl rfl rfl rfl named Try.func6 closed
    (of_decide_eq_true noInstance) noWrapper
    (fun os started H enc _ => lifted os started H enc)

/-- The statement. -/
theorem proved : Rows.FnExactRingPrincipalsSaid := over
#print axioms proved
end Go.Proofs.Ytmhneigglmingaa.FnExactRingPrincipals
