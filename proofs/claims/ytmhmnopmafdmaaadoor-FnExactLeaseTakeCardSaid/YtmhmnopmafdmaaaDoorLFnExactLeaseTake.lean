/- The law FnExactLeaseTake: LeaseTake returns what the reference returns, leaves its argument as it was, and hands back memory of its own. Proved for every input where the program's two error variables hold what the program's text lays in them (a tied card): the law's Go function returns true, and each argument reads afterwards as it read before. -/
import Derived.Test.YtmhmnopmafdmaaaDoorSeat
import Derived.Test.YtmhmnopmafdmaaaDoorTake
import Derived.Test.YtmhmnopmafdmaaaDoorMarkT
import Derived.Test.YtmhmnopmafdmaaaDoorTriArg
import Derived.Test.YtmhmnopmafdmaaaDoorTie
import Derived.Test.YtmhmnopmafdmaaaDoorCards
import Derived.WalkKit
import Derived.ProofKit
import Derived.OpenShut
import Derived.ShutString
import Derived.ChangeOld
import Derived.Below
import Derived.OpenVars
import Derived.LaidMore
import Derived.Stop.Joined
import Derived.Stop.LaidTwo
import Derived.SevenTiedAt
namespace Go.Proofs.YtmhmnopmafdmaaaDoor.FnExactLeaseTake
open Go.ChangeShapes Go.WideShapes Go.ChangeAt Go.RowKit Go.Stop
open Go.ChangeMaps (open_string shut_string)
set_option linter.unusedVariables false
set_option maxHeartbeats 400000

set_option maxHeartbeats 4000000 in
theorem walk (A : Option Addr) (c : Nat) (xs : List Tri) (key : Int) (to : Int) (now : Int) (till : Int) (a0 a1 : Addr) (w : World) (w0 : ArgT w A c xs) (v1 : (Lit.int .i64 key).wf = true) (v2 : (Lit.int .i64 to).wf = true) (v3 : (Lit.int .i64 now).wf = true) (v4 : (Lit.int .i64 till).wf = true) (hS : Sent w a0 a1) : Calls Tryd.prog 3 #[.slice A xs.length c, .int .i64 key, .int .i64 to, .int .i64 now, .int .i64 till] w fun e w' => e = .returned (.bool true) ∧ Below w.heap.size w w' := by
  obtain ⟨hl, hc, hn⟩ := w0
  clear v1 v2 v3 v4
  have H0 := Lib.hid (szTri_any A xs.length c 1048576 (by omega) (by omega) (by omega) w)
  by_cases hbig : 1048576 < xs.length
  · rw [if_pos (by omega)] at H0
    clear hn
    unfold maxLen at hc
    go_enter Tryd.func3, Tryd.ntmps3
    go_wp2_with fail
    refine (H0.out).mono ?_; rintro e w1 ⟨rfl, rfl⟩
    go_wp2
    go_ret
    exact ⟨rfl, Below.refl _ _⟩
  · have hlen : xs.length ≤ 1048576 := by omega
    rw [if_neg (by omega)] at H0
    have hmax : xs.length ≤ maxLen := by unfold maxLen; omega
    have hsm : ¬ (1048576 : Int) - (xs.length : Int) < 0 := by omega
    have C1 := fun (w1 : World) (h1 : Below w.heap.size w w1) => Lib.hid (toTriS_any w.heap.size A c xs hlen w1 h1.size (hn.below h1))
    have C2 := fun (w1 : World) (A' : Option Addr) (h1 : TrisAt w1 w1.heap.size A' xs) => Lib.hid (tk_spec w1.heap.size A' xs.length xs key to now till (Nat.le_refl _) hmax w1 (Nat.le_refl _) h1)
    have C3 := fun (w1 : World) (A' : Option Addr) (h1 : TrisAt w1 w1.heap.size A' xs) (hw : Below w.heap.size w w1) => Lib.hid (tk_impl w1.heap.size A' xs.length xs key to now till a0 a1 (Nat.le_refl _) hmax w1 (Nat.le_refl _) h1 (hS.below hw))
    have C4 := fun (w1 : World) (A' A'' : Option Addr) (h1 : TrisAt w1 w1.heap.size A' xs) (h2 : TrisAt w1 w1.heap.size A'' xs) => Lib.hid (eqTriS_any w1.heap.size A' A'' xs.length xs.length xs xs hmax hmax w1 (Nat.le_refl _) h1 h2)
    unfold TkRet at C2 C3
    have hvl := tk_le xs key to now till
    generalize tkB xs key to now till = nn at C2 C3
    generalize tkL xs key to now till = vs at C2 C3 hvl
    have hvm : vs.length ≤ maxLen := by unfold maxLen; omega
    have hvs : vs.length ≤ 1048576 := by omega
    have C5 := fun (w1 : World) (B c1 c2 : Nat) (A' A'' : Option Addr) (hB : B ≤ w1.heap.size) (h1 : TrisAt w1 B A' vs) (h2 : TrisAt w1 B A'' vs) => Lib.hid (eqTriS_any B A' A'' c1 c2 vs vs hvm hvm w1 hB h1 h2)
    have C6 := fun (w1 : World) (base : Nat) (A' : Option Addr) (c' : Nat) (ys : List Tri) (hy : ys.length ≤ 1048576) (h1 : OwnT w1 base A' c' ys) => Lib.hid (markT_any base A' c' ys 1 (by omega) (by omega) hy w1 h1)
    have C7 := fun (w1 : World) (A' : Option Addr) (c' : Nat) (h1 : TrisAt w1 w1.heap.size A' (upT 1 vs.length)) => Lib.hid (heldT_any w1.heap.size A' c' 1 vs.length (by omega) (by omega) hvs w1 h1)
    have hUL := Lib.hid (upT_len 1 vs.length)
    clear hn hbig hmax hvm hS
    have hc' : xs.length ≤ 1048576 := hlen
    clear hl hc
    go_enter Tryd.func3, Tryd.ntmps3
    go_wp2_with fail
    refine (H0.out).mono ?_; rintro e w1 ⟨rfl, rfl⟩
    go_wp2_with fail
    refine ((C1 _ (Below.refl _ _)).out).mono ?_; rintro e w1 ⟨rfl, ho1, hb1⟩
    go_wp2_with fail
    refine ((C2 w1 _ ho1.tris).out).mono ?_; rintro e w2 ⟨A0, c0, rfl, hw0, hb2⟩
    have hB2 := below_next hb1 hb2
    have hW := hw0.tris
    clear ho1 hw0
    go_wp2_with fail
    refine ((C1 w2 hB2).out).mono ?_; rintro e w3 ⟨rfl, ho3, hb3⟩
    have hB3 := below_next hB2 hb3
    replace hW := hW.below hb3
    have hlt3 : w2.heap.size < w3.heap.size := by
      rcases ho3.form with ⟨h, _⟩ | ⟨g, h, _, h2⟩
      · cases h
      · injection h with h; injection h with h; omega
    go_wp2_with fail
    refine ((C3 w3 _ ho3.tris hB3).out).mono ?_; rintro e w4 ⟨A4, c4, rfl, hg, hb4⟩
    have hB4 := below_next hB3 hb4
    replace hW := hW.below (hb4.mono (Nat.le_of_lt hlt3))
    replace ho3 := ho3.below hb4 (Nat.le_refl _)
    have h34 := hb4.size
    go_wp2_with fail
    refine ((C5 w4 w4.heap.size _ _ _ _ (Nat.le_refl _) hg.tris (hW.more (by omega))).out).mono ?_; rintro e w5 ⟨rfl, hb5⟩
    have hB5 := below_next hB4 hb5
    have h45 := hb5.size
    replace hW := hW.below (hb5.mono (by omega))
    replace ho3 := ho3.below hb5 (Nat.le_refl _)
    replace hg := hg.below hb5 (Nat.le_refl _)
    go_wp2_with fail
    refine ((C1 w5 hB5).out).mono ?_; rintro e w6 ⟨rfl, ho6, hb6⟩
    have hB6 := below_next hB5 hb6
    have h56 := hb6.size
    replace hW := hW.below (hb6.mono (by omega))
    replace ho3 := ho3.below hb6 (Nat.le_refl _)
    replace hg := hg.below hb6 (Nat.le_refl _)
    go_wp2_with fail
    refine ((C4 w6 _ _ ho3.tris ho6.tris).out).mono ?_; rintro e w7 ⟨rfl, hb7⟩
    have hB7 := below_next hB6 hb7
    have h67 := hb7.size
    replace hW := hW.below (hb7.mono (by omega))
    replace ho3 := ho3.below hb7 (Nat.le_refl _)
    replace hg := hg.below hb7 (Nat.le_refl _)
    clear ho6 hb1 hb2 hb3 hb4 hb5 hb6 hb7
    go_wp2_with fail
    refine ((C6 w7 _ _ _ xs hlen ho3).out).mono ?_; rintro e w8 ⟨rfl, ho8, hg8⟩
    have hsz8 := hg8.size
    have hW8 : Below w2.heap.size w7 w8 := (Below.refl _ _).grown hg8 (by omega) (fun k e => by cases e; exact Nat.le_refl _)
    have hB8 : Below w.heap.size w w8 := hB7.trans (hW8.mono hB2.size)
    replace hW := hW.below hW8
    replace hg := hg.grown hg8 hlt3
    clear ho3 ho8 hg8 hW8 hB7
    have hk8 : ¬ (1 : Int) + 3 * (xs.length : Int) < 0 := by omega
    go_wp2_with fail
    refine ((C5 w8 w8.heap.size _ _ _ _ (Nat.le_refl _) hg.tris (hW.more (by omega))).out).mono ?_; rintro e w9 ⟨rfl, hb9⟩
    have hB9 := below_next hB8 hb9
    have h89 := hb9.size
    replace hW := hW.below (hb9.mono (by omega))
    replace hg := hg.below hb9 (Nat.le_refl _)
    clear hb9 hB8
    go_wp2_with fail
    refine ((C6 w9 _ _ _ vs hvs hg).out).mono ?_; rintro e w10 ⟨rfl, ho10, hg10⟩
    have hsz10 := hg10.size
    have hrow := hg.row
    have hW10 : Below w2.heap.size w9 w10 := (Below.refl _ _).grown hg10 (by omega) (fun k e => by have := hrow k e; omega)
    have hB10 : Below w.heap.size w w10 := hB9.trans (hW10.mono hB2.size)
    replace hW := hW.below hW10
    clear hg hg10 hrow hW10 hB9
    have hk10 : ¬ (1 : Int) + 3 * (vs.length : Int) < 0 := by omega
    have hTU : ∀ (W : World), OwnT W w3.heap.size A4 c4 (upT 1 vs.length) → TrisAt W W.heap.size A4 (upT 1 vs.length) := fun W h => h.tris
    go_wp2_with fail
    refine ((C7 w10 _ _ (hTU _ ho10)).out).mono ?_; rintro e w11 ⟨rfl, hd11⟩
    have hb11 := below_draw hd11
    have h1011 := hb11.size
    have hB11 := below_next hB10 hb11
    replace hW := hW.below (hb11.mono (by omega))
    replace ho10 := ho10.below hb11 (Nat.le_refl _)
    clear hd11 hb11 hB10
    go_wp2_with fail
    refine ((C1 w11 hB11).out).mono ?_; rintro e w12 ⟨rfl, ho12, hb12⟩
    have hB12 := below_next hB11 hb12
    have h1112 := hb12.size
    replace hW := hW.below (hb12.mono (by omega))
    replace ho10 := ho10.below hb12 (Nat.le_refl _)
    clear hb12 hB11
    go_wp2_with fail
    refine ((C3 w12 _ ho12.tris hB12).out).mono ?_; rintro e w13 ⟨A13, c13, rfl, hg13, hb13⟩
    have hB13 := below_next hB12 hb13
    have h1213 := hb13.size
    replace hW := hW.below (hb13.mono (by omega))
    replace ho10 := ho10.below hb13 (Nat.le_refl _)
    clear hb13 hB12 ho12
    go_wp2_with fail
    refine ((C5 w13 w13.heap.size _ _ _ _ (Nat.le_refl _) hg13.tris (hW.more (by omega))).out).mono ?_; rintro e w14 ⟨rfl, hb14⟩
    have hB14 := below_next hB13 hb14
    replace ho10 := ho10.below hb14 (Nat.le_refl _)
    clear hb14 hB13 hg13
    go_wp2_with fail
    refine ((C7 w14 _ _ (hTU _ ho10)).out).mono ?_; rintro e w15 ⟨rfl, hd15⟩
    have hB15 := below_next hB14 (below_draw hd15)
    go_wp2
    go_ret
    exact ⟨rfl, hB15⟩

def laidD : List (String × DataW Unit) := [("loop.example/ringoverlay/impl.errArgs", Rows.laid_loop_example_ringoverlay_impl_errArgs), ("loop.example/ringoverlay/impl.errRefused", Rows.laid_loop_example_ringoverlay_impl_errRefused)]
theorem gA : Tryd.prog.globalNamed "loop.example/ringoverlay/impl.errArgs" = some 0 := by kernel_rfl
theorem gR : Tryd.prog.globalNamed "loop.example/ringoverlay/impl.errRefused" = some 1 := by kernel_rfl
theorem gAT : (Tryd.prog.globals[0]?).map (·.type) = some 39 := by kernel_rfl
theorem gRT : (Tryd.prog.globals[1]?).map (·.type) = some 39 := by kernel_rfl
theorem cellsE : Tryd.prog.cellsOf 96 = 1 := by kernel_rfl
theorem cellsS : Tryd.prog.cellsOf 9 = 1 := by kernel_rfl
theorem star : "*" ++ "errors.errorString" = "*errors.errorString" := by decide
theorem rowE (u : TypeId) (h : Tryd.prog.typeName? 3 u = some "*errors.errorString") : u = 70 :=
  typeName_ptr_named (nm := "errors.errorString") (by rw [star]; kernel_rfl) (by kernel_rfl) (by decide) u (by rw [star]; exact h)
/-- What the condition on the two variables gives. -/
theorem sent_of {W : World} (h : laidMetH Tryd.prog laidD W) : ∃ a0 a1, Sent W a0 a1 := by
  rw [MakeChecks.laidMetH_plain _ _ _ (by kernel_rfl)] at h
  obtain ⟨a0, a1, s0, s1, c0, c1, t0, t1, hv0, hv1, hc0, hs0, hz0, hc1, hs1, hz1, hne, hb0, hb1⟩ := laid_sentinels2 h gA gAT gR gRT Tryd.underlying39 rowE Tryd.underlying70 Tryd.underlying96 rfl rfl Tryd.underlying9 cellsE cellsS
  exact ⟨a0, a1, by simpa using World.var?_cell gA hv0 0, by simpa using World.var?_cell gR hv1 0, hne, ⟨_, _, hb0⟩, ⟨_, _, hb1⟩⟩
theorem door_met (os : Os) (args : Array Value) : laidMetH Tryd.prog laidD ((World.doorLaid Tryd.prog 400 os).forCall (fun _ _ => 0) ⟨#[], args, []⟩).memory :=
  laidMetH_of_parts3 (fuel := 8) (laidMet_of_run' 8 (by kernel_rfl) (by kernel_rfl)) (by kernel_rfl) (by kernel_rfl)
set_option maxRecDepth 100000 in
theorem lifted (os : Os) (started : os.Started) (H : Type) (enc : TypeId × Value → H) :
    ReturnsInHanded {} Tryd.checked os 3 .any (fun w args => (Rows.fnExactLeaseTakeSpec.pre enc Tryd.prog Tryd.f3 [] false w args ∧ laidMetH Tryd.prog laidD w) ∧ sizedMet enc Tryd.prog Tryd.f3 (OpenSpec.ofChange Rows.fnExactLeaseTakeSpec) false w args)
      (Rows.fnExactLeaseTakeSpec.post enc Tryd.prog Tryd.f3 false true false false) := by
  refine returnsInHanded_of_change_and (C := Tryd.checked) (X := fun w _ => laidMetH Tryd.prog laidD w) (fun _ _ _ hh h => h.of_heap hh) own started (by kernel_rfl) Tryd.func3
    (ChangeSpec.witness_shaped (enc := enc) (C := Tryd.checked) (os := os) (X := fun w _ => laidMetH Tryd.prog laidD w) false (World.doorLaid Tryd.prog 400 os) #[.slice none 0 0, .int .i64 0, .int .i64 0, .int .i64 0, .int .i64 0] 8 rfl (World.shaped_of_RefB (by kernel_rfl) (by kernel_rfl)) (by kernel_rfl) (by kernel_rfl) (by kernel_rfl) (door_met os _)) ?_
  intro W base args ds gs before hval0 hW _ _ hL _
  have hval : ∀ (j : Nat) t v, Tryd.f3.params[j]? = some t → args[j]? = some v → Value.okWide Tryd.prog W .any base t v := hval0
  have hW' := hW
  obtain ⟨p, q, hA0, hV, rfl, hfz, hnd⟩ := hW
  have hA : DataW.TrodAll enc Tryd.prog W 0 (fun _ => true) true Tryd.f3.params.toList args.toList ds p := hA0
  rw [Tryd.params3] at hA hval
  obtain ⟨v0, vs0, d0, ds0, p0, q0, hargs, rfl, rfl, h0, r0⟩ := trodAll_cons hA
  obtain ⟨v1, vs1, d1, ds1, p1, q1, rfl, rfl, rfl, h1, r1⟩ := trodAll_cons r0
  obtain ⟨v2, vs2, d2, ds2, p2, q2, rfl, rfl, rfl, h2, r2⟩ := trodAll_cons r1
  obtain ⟨v3, vs3, d3, ds3, p3, q3, rfl, rfl, rfl, h3, r3⟩ := trodAll_cons r2
  obtain ⟨v4, vs4, d4, ds4, p4, q4, rfl, rfl, rfl, h4, r4⟩ := trodAll_cons r3
  obtain ⟨rfl, rfl, rfl⟩ := trodAll_nil r4
  obtain rfl : args = #[v0, v1, v2, v3, v4] := by cases args; simp_all
  have hV2 : DataW.TrodVars enc Tryd.prog W (fun _ => true) ["loop.example/ringoverlay/impl.errArgs", "loop.example/ringoverlay/impl.errRefused"] gs q := hV
  obtain ⟨gA', gR', hgs⟩ : ∃ x y, gs = [x, y] := by obtain ⟨_, _, _, _, d0, _, _, _, _, _, d1, _, h, _⟩ := trodVars_two hV2; exact ⟨d0, d1, h⟩
  subst hgs
  obtain ⟨b0, b1, hS⟩ := sent_of hL
  obtain ⟨A0, len0, c0, rfl⟩ := okWide_slice Tryd.underlying22 (hval 0 22 v0 rfl rfl)
  have k0 := h0
  have lt0 : ∀ x ∈ p0, x.block < W.heap.size := by obtain ⟨m, hm⟩ := k0; exact DataW.trod_lt m _ _ _ hm
  obtain ⟨xs0, rfl, w0⟩ : ∃ xs : List Tri, xs.length = len0 ∧ ArgT W A0 c0 xs := by
    obtain ⟨fuel, hf⟩ := h0
    rcases open_tris Tryd.underlying22 Tryd.underlying37 (by kernel_rfl) (by kernel_rfl) rfl (fun j hj => match j, hj with | 0, _ => congrArg some Tryd.underlying3 | 1, _ => congrArg some Tryd.underlying3 | 2, _ => congrArg some Tryd.underlying3 | _ + 3, h => absurd h (by omega)) hf with hcs | ⟨x, l, c, zs, hcs, hz, ha⟩
    · simp [Value.cells] at hcs
      obtain ⟨rfl, rfl, rfl⟩ := hcs
      exact ArgT.none_
    · simp [Value.cells] at hcs
      obtain ⟨rfl, rfl, rfl⟩ := hcs
      exact ⟨zs, hz, ha⟩
  obtain ⟨a1, rfl, rfl, rfl, w1⟩ := open_int Tryd.underlying3 (hval 1 3 v1 rfl rfl) h1
  obtain ⟨a2, rfl, rfl, rfl, w2⟩ := open_int Tryd.underlying3 (hval 2 3 v2 rfl rfl) h2
  obtain ⟨a3, rfl, rfl, rfl, w3⟩ := open_int Tryd.underlying3 (hval 3 3 v3 rfl rfl) h3
  obtain ⟨a4, rfl, rfl, rfl, w4⟩ := open_int Tryd.underlying3 (hval 4 3 v4 rfl rfl) h4
  clear hA0 hval0
  refine (walk A0 c0 xs0 a1 a2 a3 a4 b0 b1 W w0 w1 w2 w3 w4 hS).mono fun e W' ⟨he, bel⟩ => ?_
  subst he
  exact ⟨_, rfl, _, _, _, [], _, q, hW', trodAll_mk1 (shut_bool Tryd.underlying4 _), (trodAll_cons_mk (Below.trod laidOut (by kernel_rfl) (of_decide_eq_true (by kernel_rfl)) k0 bel lt0) (trodAll_cons_mk (shut_int Tryd.underlying3 w1) (trodAll_cons_mk (shut_int Tryd.underlying3 w2) (trodAll_cons_mk (shut_int Tryd.underlying3 w3) (trodAll_cons_mk (shut_int Tryd.underlying3 w4) trodAll_mk0))))), bel.trodVars laidOut (by kernel_rfl) hV2, bel.frame _, fun h => by cases h⟩

theorem nm : Tryd.f3.name = Rows.fnExactLeaseTakeRow.func := by kernel_rfl
theorem notMain : decide (Check.packageOf Rows.fnExactLeaseTakeRow.func = "main") = false := by kernel_rfl
theorem noWrapper : Func.isWrapper Tryd.prog Tryd.f3 Rows.fnExactLeaseTakeRow.wrapper Rows.fnExactLeaseTakeRow.mainSum := by
  unfold Func.isWrapper; rw [nm, if_neg (of_decide_eq_false notMain)]; exact ⟨rfl, rfl⟩
theorem closed : joinedFacts Tryd.prog 3 Tryd.f3 Rows.fnExactLeaseTakeSpec Rows.fnExactLeaseTakeRow = true := by
  unfold joinedFacts
  exact (andI (andI (andI (andI (andI (andI (andI (andI (andI (andI (andI (andI (andI (andI (andI (andI (andI (andI (andI (andI (andI (andI (andI (andI (andI (andI (andI (andI (andI (andI (andI (by kernel_rfl) laidOut) rowed) (by kernel_rfl)) (by kernel_rfl)) (by kernel_rfl)) (by kernel_rfl)) (by kernel_rfl)) (by kernel_rfl)) (by kernel_rfl)) (by kernel_rfl)) (by kernel_rfl)) (by kernel_rfl)) (by kernel_rfl)) (by kernel_rfl)) (by kernel_rfl)) (by kernel_rfl)) (by kernel_rfl)) (by kernel_rfl)) (by kernel_rfl)) (by kernel_rfl)) (by kernel_rfl)) (by rw [plain_keys]; kernel_rfl)) (by kernel_rfl)) heard) mayEnter) (by rw [liftsFinal]; kernel_rfl)) (by rw [makeCut]; kernel_rfl)) (by kernel_rfl)) (by kernel_rfl)) (by kernel_rfl)) (by kernel_rfl))
theorem noInstance : decide (Func.isInstance Tryd.prog Tryd.f3 Rows.fnExactLeaseTakeRow.origin Rows.fnExactLeaseTakeRow.targs) = true := by kernel_rfl
theorem named : Tryd.prog.funcNamed Rows.fnExactLeaseTakeRow.func = some 3 := by kernel_rfl
theorem over : Rows.fnExactLeaseTakeRow.holds Tryd.pinned (OpenSpec.ofChange Rows.fnExactLeaseTakeSpec) :=
  OpenClaim.holds_of_wide 3 Tryd.f3 rfl rfl rfl rfl rfl rfl rfl ⟨rfl, rfl, rfl, rfl, rfl⟩ rfl rfl rfl rfl rfl named Tryd.func3 closed
    (of_decide_eq_true noInstance) noWrapper
    (fun os started H enc _ => lifted os started H enc)

theorem looked : true = Tryd.pinned.checked.prog.looks [] := by kernel_rfl
/-- The statement. -/
theorem proved : Rows.FnExactLeaseTakeCardSaid :=
  Claim7.holds_tied_plain_at .later [] [.sentinel, .sentinel] true (true, "5e5a235d9285e837577c0bc6c0f195a8f9c923d5aba96c8d4192336aad4d6508") true
    over (fun _ h => by cases h) (by kernel_rfl) (fun _ h => by cases h) fnExactLeaseTake_row_tie rfl ⟨rfl, rfl⟩ (by kernel_rfl) rfl
    (fun f fn hf hfn => by
      obtain rfl : f = 3 := Option.some.inj (named.symm.trans hf) |>.symm
      obtain rfl : fn = Tryd.f3 := (Option.some.inj (Tryd.func3.symm.trans hfn)).symm
      exact ⟨looked, fun j t ht => by
        rw [Tryd.params3] at ht
        have hm : t ∈ [22, 3, 3, 3, 3] := by simpa using Array.mem_of_getElem? ht
        have hall : ([22, 3, 3, 3, 3].all fun u => !Tryd.prog.wantsStandIn u) = true := by kernel_rfl
        exact (show Tryd.prog.wantsStandIn t = false by simpa using List.all_eq_true.1 hall t hm)⟩)
    (by kernel_rfl)
#print axioms proved
end Go.Proofs.YtmhmnopmafdmaaaDoor.FnExactLeaseTake
