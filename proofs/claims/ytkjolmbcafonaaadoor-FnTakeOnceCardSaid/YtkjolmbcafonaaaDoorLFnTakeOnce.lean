/- The law FnTakeOnce: a range is taken over once. Proved for every input where the program's two error variables hold what the program's text lays in them (a tied card): the law's Go function returns true, and each argument reads afterwards as it read before. -/
import Derived.Test.YtkjolmbcafonaaaDoorSeat
import Derived.Test.YtkjolmbcafonaaaDoorDrawT
import Derived.Test.YtkjolmbcafonaaaDoorTake
import Derived.Test.YtkjolmbcafonaaaDoorSameT
import Derived.Test.YtkjolmbcafonaaaDoorTie
import Derived.Test.YtkjolmbcafonaaaDoorCards
import Derived.WalkKit
import Derived.ProofKit
import Derived.OpenShut
import Derived.ShutString
import Derived.ChangeOld
import Derived.Below
import Derived.OpenVars
import Derived.LaidMore
import Derived.Stop.Joined
import Derived.Stop.LaidTwo
import Derived.SevenTiedAt
namespace Go.Proofs.YtkjolmbcafonaaaDoor.FnTakeOnce
open Go.ChangeShapes Go.WideShapes Go.ChangeAt Go.RowKit Go.Stop
open Go.ChangeMaps (open_string shut_string)
set_option linter.unusedVariables false
set_option maxHeartbeats 400000

theorem tk_go {ys : List Tri} {key to now till : Int} (h : tkGo ys key to now till = true) : lval ys = true ∧ pos key = true ∧ pos to = true ∧ timeOk now = true ∧ timeOk till = true := by
  unfold tkGo at h
  rw [allPos2] at h
  simp only [Bool.and_eq_true] at h
  exact ⟨h.1, h.2.1.1, h.2.1.2, h.2.2.1, h.2.2.2⟩
theorem tk_lo {ys : List Tri} {k : Int} (h : lval ys = true) (hk : pos k = true) : loVal ys k = lof ys k := by
  have : loOk ys k = true := by unfold loOk; rw [h, hk]; rfl
  unfold loVal; rw [if_pos this]
theorem tk_again {ys : List Tri} {key to now till t : Int} (h : tkB ys key to now till = true) (ht : ¬ till < now) (hp : pos t = true) : tkL (tkL ys key to now till) key t now till = tkL ys key to now till ∧ tkB (tkL ys key to now till) key t now till = false := by
  unfold tkB at h
  rw [Bool.and_eq_true, decide_eq_true_iff] at h
  obtain ⟨hgo, hex⟩ := h
  obtain ⟨h1, h2, h3, h4, h5⟩ := tk_go hgo
  have hl := (lval_len h1).1
  have hL : tkL ys key to now till = seizeT ys key to till := by unfold tkL; rw [if_pos hgo, if_pos hex]
  rw [hL]
  have hg2 : tkGo (seizeT ys key to till) key t now till = true := by unfold tkGo; rw [allPos2, seize_valid h1 h3 h5, h2, hp, h4, h5]; rfl
  have he : ¬ (lof (seizeT ys key to till) key).2.2 < now := by rw [seize_lof hl, if_pos rfl]; exact ht
  exact ⟨by unfold tkL; rw [if_pos hg2, if_neg he], by unfold tkB; rw [decide_eq_false he]; simp⟩
set_option maxHeartbeats 4000000 in
theorem walk (A : Option Addr) (c : Nat) (xs : List Int) (A9 : Option Addr) (c9 : Nat) (ms : List Int) (a0 a1 : Addr) (w : World) (w0 : Arg .u8 w A c xs) (w9 : Arg .u8 w A9 c9 ms) (hS : Sent w a0 a1) : Calls Tryd.prog 3 #[.slice A xs.length c, .slice A9 ms.length c9] w fun e w' => e = .returned (.bool true) ∧ Below w.heap.size w w' := by
  have HO := Lib.hid (drawTake_any A c xs w w0)
  obtain ⟨hl, hc, -, -⟩ := w0
  obtain ⟨hl9, hc9, -, -⟩ := w9
  unfold maxLen at hc9
  unfold maxLen at hc
  by_cases hbig : 1048576 < xs.length
  · go_enter Tryd.func3, Tryd.ntmps3
    go_wp2
    go_ret
    exact ⟨rfl, Below.refl _ _⟩
  have hsm : xs.length ≤ 1048576 := by omega
  by_cases hbig9 : 1048576 < ms.length
  · go_enter Tryd.func3, Tryd.ntmps3
    go_wp2
    go_ret
    exact ⟨rfl, Below.refl _ _⟩
  have hsm9 : ms.length ≤ 1048576 := by omega
  clear hbig9 hl9 hc9
  clear hbig hl hc
  go_enter Tryd.func3, Tryd.ntmps3
  go_wp2_with fail
  refine HO.out.mono ?_; rintro e w1 ⟨A1, c1, ys, key, to, now, till, rfl, ho, hy12, ⟨k0, k1⟩, -, ⟨n0, n1⟩, ⟨t0, t1⟩, hB⟩
  clear HO
  obtain ⟨hlc, hcm⟩ := ho.len
  have hvl := tk_le ys key to now till
  have HI := fun (W : World) (h : OwnT W w.heap.size A1 c1 ys) (hw : Below w.heap.size w W) => Lib.hid (tk_impl W.heap.size A1 c1 ys key to now till a0 a1 hlc hcm W (Nat.le_refl _) h.tris (hS.below hw))
  have HS := fun (W : World) (h : OwnT W w.heap.size A1 c1 ys) => Lib.hid (tk_spec W.heap.size A1 c1 ys key to now till hlc hcm W (Nat.le_refl _) h.tris)
  have hvm : (tkL ys key to now till).length ≤ maxLen := by unfold maxLen; omega
  unfold TkRet at HI HS
  cases hN : tkB ys key to now till
  · rw [hN] at HI HS
    generalize tkL ys key to now till = L at HI HS hvm hvl
    clear hN
    go_wp2_with fail
    refine (HI w1 ho hB).out.mono ?_; rintro e w2 ⟨A2, c2, rfl, ho2, hb2⟩
    replace ho := ho.below hb2 (Nat.le_refl _)
    replace ho2 := ho2.base hB.size
    replace hB := below_next hB hb2
    clear hb2
    go_wp2_with fail
    refine (HS w2 ho).out.mono ?_; rintro e w3 ⟨A3, c3, rfl, ho3, hb3⟩
    replace ho := ho.below hb3 (Nat.le_refl _)
    replace ho2 := ho2.below hb3 (Nat.le_refl _)
    replace hB := below_next hB hb3
    have HO1 := Lib.hid ho
    have HO2 := Lib.hid ho2
    have HO3 := Lib.hid ho3
    clear hb3 ho2 ho3 ho HI HS
    go_wp2_with fail
    refine (sameT_self hvm _ HO2.out HO3.out).mono ?_; rintro e w4 ⟨rfl, hd4⟩
    replace HO1 := Lib.hid (HO1.out.below (below_draw hd4) (Nat.le_refl _))
    replace HO2 := Lib.hid (HO2.out.below (below_draw hd4) (Nat.le_refl _))
    replace HO3 := Lib.hid (HO3.out.below (below_draw hd4) (Nat.le_refl _))
    replace hB := below_next hB (below_draw hd4)
    clear hd4
    go_wp2_with fail
    refine (sameT_self hvm _ HO2.out HO3.out).mono ?_; rintro e w5 ⟨rfl, hd5⟩
    go_wp2
    go_ret
    exact ⟨rfl, below_next hB (below_draw hd5)⟩
  by_cases hu : till < now
  · rw [hN] at HI HS
    generalize tkL ys key to now till = L at HI HS hvm hvl
    clear hN
    go_wp2_with fail
    refine (HI w1 ho hB).out.mono ?_; rintro e w2 ⟨A2, c2, rfl, ho2, hb2⟩
    replace ho := ho.below hb2 (Nat.le_refl _)
    replace ho2 := ho2.base hB.size
    replace hB := below_next hB hb2
    clear hb2
    go_wp2_with fail
    refine (HS w2 ho).out.mono ?_; rintro e w3 ⟨A3, c3, rfl, ho3, hb3⟩
    replace ho := ho.below hb3 (Nat.le_refl _)
    replace ho2 := ho2.below hb3 (Nat.le_refl _)
    replace hB := below_next hB hb3
    have HO1 := Lib.hid ho
    have HO2 := Lib.hid ho2
    have HO3 := Lib.hid ho3
    clear hb3 ho2 ho3 ho HI HS
    go_wp2_with fail
    refine (sameT_self hvm _ HO2.out HO3.out).mono ?_; rintro e w4 ⟨rfl, hd4⟩
    replace HO1 := Lib.hid (HO1.out.below (below_draw hd4) (Nat.le_refl _))
    replace HO2 := Lib.hid (HO2.out.below (below_draw hd4) (Nat.le_refl _))
    replace HO3 := Lib.hid (HO3.out.below (below_draw hd4) (Nat.le_refl _))
    replace hB := below_next hB (below_draw hd4)
    clear hd4
    go_wp2_with fail
    refine (sameT_self hvm _ HO2.out HO3.out).mono ?_; rintro e w5 ⟨rfl, hd5⟩
    go_wp2
    go_ret
    exact ⟨rfl, below_next hB (below_draw hd5)⟩
  · obtain ⟨g1, g2⟩ := tk_again (t := (ms.length : Int) % 64) hN hu (pos_iff.2 ⟨by omega, by omega⟩)
    have HT := fun (W : World) (B : Nat) (A5 : Option Addr) (c5 : Nat) (h : OwnT W B A5 c5 (tkL ys key to now till)) (hw : Below w.heap.size w W) => Lib.hid (tk_impl W.heap.size A5 c5 (tkL ys key to now till) key ((ms.length : Int) % 64) now till a0 a1 h.len.1 h.len.2 W (Nat.le_refl _) h.tris (hS.below hw))
    unfold TkRet at HT
    rw [g1, g2] at HT
    rw [hN] at HI HS
    generalize tkL ys key to now till = L at HI HS hvm hvl HT
    clear hN g1 g2
    go_wp2_with fail
    refine (HI w1 ho hB).out.mono ?_; rintro e w2 ⟨A2, c2, rfl, ho2, hb2⟩
    replace ho := ho.below hb2 (Nat.le_refl _)
    replace ho2 := ho2.base hB.size
    replace hB := below_next hB hb2
    clear hb2
    go_wp2_with fail
    refine (HS w2 ho).out.mono ?_; rintro e w3 ⟨A3, c3, rfl, ho3, hb3⟩
    replace ho := ho.below hb3 (Nat.le_refl _)
    replace ho2 := ho2.below hb3 (Nat.le_refl _)
    replace hB := below_next hB hb3
    have HO1 := Lib.hid ho
    have HO2 := Lib.hid ho2
    have HO3 := Lib.hid ho3
    clear hb3 ho2 ho3 ho HI HS
    go_wp2_with fail
    refine (sameT_self hvm _ HO2.out HO3.out).mono ?_; rintro e w4 ⟨rfl, hd4⟩
    replace HO1 := Lib.hid (HO1.out.below (below_draw hd4) (Nat.le_refl _))
    replace HO2 := Lib.hid (HO2.out.below (below_draw hd4) (Nat.le_refl _))
    replace HO3 := Lib.hid (HO3.out.below (below_draw hd4) (Nat.le_refl _))
    replace hB := below_next hB (below_draw hd4)
    clear hd4
    have HT4 := HT w4 _ A2 c2 HO2.out hB
    clear HT HO1 HO3
    go_wp2_with fail
    refine HT4.out.mono ?_; rintro e w5 ⟨A5, c5, rfl, ho5, hb5⟩
    replace HO2 := Lib.hid (HO2.out.below hb5 (Nat.le_refl _))
    replace hB := below_next hB hb5
    have HO5 := Lib.hid ho5
    clear ho5 hb5 HT4
    go_wp2_with fail
    refine (sameT_self hvm _ HO5.out HO2.out).mono ?_; rintro e w6 ⟨rfl, hd6⟩
    go_wp2
    go_ret
    exact ⟨rfl, below_next hB (below_draw hd6)⟩

def laidD : List (String × DataW Unit) := [("loop.example/ringoverlay/impl.errArgs", Rows.laid_loop_example_ringoverlay_impl_errArgs), ("loop.example/ringoverlay/impl.errRefused", Rows.laid_loop_example_ringoverlay_impl_errRefused)]
theorem gA : Tryd.prog.globalNamed "loop.example/ringoverlay/impl.errArgs" = some 0 := by kernel_rfl
theorem gR : Tryd.prog.globalNamed "loop.example/ringoverlay/impl.errRefused" = some 1 := by kernel_rfl
theorem gAT : (Tryd.prog.globals[0]?).map (·.type) = some 44 := by kernel_rfl
theorem gRT : (Tryd.prog.globals[1]?).map (·.type) = some 44 := by kernel_rfl
theorem cellsE : Tryd.prog.cellsOf 105 = 1 := by kernel_rfl
theorem cellsS : Tryd.prog.cellsOf 9 = 1 := by kernel_rfl
theorem star : "*" ++ "errors.errorString" = "*errors.errorString" := by decide
theorem rowE (u : TypeId) (h : Tryd.prog.typeName? 3 u = some "*errors.errorString") : u = 79 :=
  typeName_ptr_named (nm := "errors.errorString") (by rw [star]; kernel_rfl) (by kernel_rfl) (by decide) u (by rw [star]; exact h)
/-- What the condition on the two variables gives. -/
theorem sent_of {W : World} (h : laidMetH Tryd.prog laidD W) : ∃ a0 a1, Sent W a0 a1 := by
  rw [MakeChecks.laidMetH_plain _ _ _ (by kernel_rfl)] at h
  obtain ⟨a0, a1, s0, s1, c0, c1, t0, t1, hv0, hv1, hc0, hs0, hz0, hc1, hs1, hz1, hne, hb0, hb1⟩ := laid_sentinels2 h gA gAT gR gRT Tryd.underlying44 rowE Tryd.underlying79 Tryd.underlying105 rfl rfl Tryd.underlying9 cellsE cellsS
  exact ⟨a0, a1, by simpa using World.var?_cell gA hv0 0, by simpa using World.var?_cell gR hv1 0, hne, ⟨_, _, hb0⟩, ⟨_, _, hb1⟩⟩
theorem door_met (os : Os) (args : Array Value) : laidMetH Tryd.prog laidD ((World.doorLaid Tryd.prog 400 os).forCall (fun _ _ => 0) ⟨#[], args, []⟩).memory :=
  laidMetH_of_parts3 (fuel := 8) (laidMet_of_run' 8 (by kernel_rfl) (by kernel_rfl)) (by kernel_rfl) (by kernel_rfl)
set_option maxRecDepth 100000 in
theorem lifted (os : Os) (started : os.Started) (H : Type) (enc : TypeId × Value → H) :
    ReturnsInHanded {} Tryd.checked os 3 .any (fun w args => (Rows.fnTakeOnceSpec.pre enc Tryd.prog Tryd.f3 [] false w args ∧ laidMetH Tryd.prog laidD w) ∧ sizedMet enc Tryd.prog Tryd.f3 (OpenSpec.ofChange Rows.fnTakeOnceSpec) false w args)
      (Rows.fnTakeOnceSpec.post enc Tryd.prog Tryd.f3 false true false false) := by
  refine returnsInHanded_of_change_and (C := Tryd.checked) (X := fun w _ => laidMetH Tryd.prog laidD w) (fun _ _ _ hh h => h.of_heap hh) own started (by kernel_rfl) Tryd.func3
    (ChangeSpec.witness_shaped (enc := enc) (C := Tryd.checked) (os := os) (X := fun w _ => laidMetH Tryd.prog laidD w) false (World.doorLaid Tryd.prog 400 os) #[.slice none 0 0, .slice none 0 0] 8 rfl (World.shaped_of_RefB (by kernel_rfl) (by kernel_rfl)) (by kernel_rfl) (by kernel_rfl) (by kernel_rfl) (door_met os _)) ?_
  intro W base args ds gs before hval0 hW _ _ hL _
  have hval : ∀ (j : Nat) t v, Tryd.f3.params[j]? = some t → args[j]? = some v → Value.okWide Tryd.prog W .any base t v := hval0
  have hW' := hW
  obtain ⟨p, q, hA0, hV, rfl, hfz, hnd⟩ := hW
  have hA : DataW.TrodAll enc Tryd.prog W 0 (fun _ => true) true Tryd.f3.params.toList args.toList ds p := hA0
  rw [Tryd.params3] at hA hval
  obtain ⟨v0, vs0, d0, ds0, p0, q0, hargs, rfl, rfl, h0, r0⟩ := trodAll_cons hA
  obtain ⟨v1, vs1, d1, ds1, p1, q1, rfl, rfl, rfl, h1, r1⟩ := trodAll_cons r0
  obtain ⟨rfl, rfl, rfl⟩ := trodAll_nil r1
  obtain rfl : args = #[v0, v1] := by cases args; simp_all
  have hV2 : DataW.TrodVars enc Tryd.prog W (fun _ => true) ["loop.example/ringoverlay/impl.errArgs", "loop.example/ringoverlay/impl.errRefused"] gs q := hV
  obtain ⟨gA', gR', hgs⟩ : ∃ x y, gs = [x, y] := by obtain ⟨_, _, _, _, d0, _, _, _, _, _, d1, _, h, _⟩ := trodVars_two hV2; exact ⟨d0, d1, h⟩
  subst hgs
  obtain ⟨b0, b1, hS⟩ := sent_of hL
  obtain ⟨A0, len0, c0, rfl⟩ := okWide_slice Tryd.underlying22 (hval 0 22 v0 rfl rfl)
  have k0 := h0
  have lt0 : ∀ x ∈ p0, x.block < W.heap.size := by obtain ⟨m, hm⟩ := k0; exact DataW.trod_lt m _ _ _ hm
  obtain ⟨xs0, rfl, w0⟩ : ∃ xs : List Int, xs.length = len0 ∧ Arg .u8 W A0 c0 xs := by
    obtain ⟨fuel, hf⟩ := h0
    rcases open_ints Tryd.underlying22 Tryd.underlying5 (by kernel_rfl) hf with ⟨hcs, _⟩ | ⟨x, l, c, zs, hcs, _, hl, hm, hz, _, hcell, hwz⟩
    · simp [Value.cells] at hcs
      obtain ⟨rfl, rfl, rfl⟩ := hcs
      exact Arg.none_
    · simp [Value.cells] at hcs
      obtain ⟨rfl, rfl, rfl⟩ := hcs
      exact Arg.row hl hm (by simpa using hz) hcell hwz
  obtain ⟨A1, len1, c1, rfl⟩ := okWide_slice Tryd.underlying22 (hval 1 22 v1 rfl rfl)
  have k1 := h1
  have lt1 : ∀ x ∈ p1, x.block < W.heap.size := by obtain ⟨m, hm⟩ := k1; exact DataW.trod_lt m _ _ _ hm
  obtain ⟨xs1, rfl, w1⟩ : ∃ xs : List Int, xs.length = len1 ∧ Arg .u8 W A1 c1 xs := by
    obtain ⟨fuel, hf⟩ := h1
    rcases open_ints Tryd.underlying22 Tryd.underlying5 (by kernel_rfl) hf with ⟨hcs, _⟩ | ⟨x, l, c, zs, hcs, _, hl, hm, hz, _, hcell, hwz⟩
    · simp [Value.cells] at hcs
      obtain ⟨rfl, rfl, rfl⟩ := hcs
      exact Arg.none_
    · simp [Value.cells] at hcs
      obtain ⟨rfl, rfl, rfl⟩ := hcs
      exact Arg.row hl hm (by simpa using hz) hcell hwz
  clear hA0 hval0
  refine (walk A0 c0 xs0 A1 c1 xs1 b0 b1 W w0 w1 hS).mono fun e W' ⟨he, bel⟩ => ?_
  subst he
  exact ⟨_, rfl, _, _, _, [], _, q, hW', trodAll_mk1 (shut_bool Tryd.underlying4 _), (trodAll_cons_mk (Below.trod laidOut (by kernel_rfl) (of_decide_eq_true (by kernel_rfl)) k0 bel lt0) (trodAll_cons_mk (Below.trod laidOut (by kernel_rfl) (of_decide_eq_true (by kernel_rfl)) k1 bel lt1) trodAll_mk0)), bel.trodVars laidOut (by kernel_rfl) hV2, bel.frame _, fun h => by cases h⟩

theorem nm : Tryd.f3.name = Rows.fnTakeOnceRow.func := by kernel_rfl
theorem notMain : decide (Check.packageOf Rows.fnTakeOnceRow.func = "main") = false := by kernel_rfl
theorem noWrapper : Func.isWrapper Tryd.prog Tryd.f3 Rows.fnTakeOnceRow.wrapper Rows.fnTakeOnceRow.mainSum := by
  unfold Func.isWrapper; rw [nm, if_neg (of_decide_eq_false notMain)]; exact ⟨rfl, rfl⟩
theorem closed : joinedFacts Tryd.prog 3 Tryd.f3 Rows.fnTakeOnceSpec Rows.fnTakeOnceRow = true := by
  unfold joinedFacts
  exact (andI (andI (andI (andI (andI (andI (andI (andI (andI (andI (andI (andI (andI (andI (andI (andI (andI (andI (andI (andI (andI (andI (andI (andI (andI (andI (andI (andI (andI (andI (andI (by kernel_rfl) laidOut) rowed) (by kernel_rfl)) (by kernel_rfl)) (by kernel_rfl)) (by kernel_rfl)) (by kernel_rfl)) (by kernel_rfl)) (by kernel_rfl)) (by kernel_rfl)) (by kernel_rfl)) (by kernel_rfl)) (by kernel_rfl)) (by kernel_rfl)) (by kernel_rfl)) (by kernel_rfl)) (by kernel_rfl)) (by kernel_rfl)) (by kernel_rfl)) (by kernel_rfl)) (by kernel_rfl)) (by rw [plain_keys]; kernel_rfl)) (by kernel_rfl)) heard) mayEnter) (by rw [liftsFinal]; kernel_rfl)) (by rw [makeCut]; kernel_rfl)) (by kernel_rfl)) (by kernel_rfl)) (by kernel_rfl)) (by kernel_rfl))
theorem noInstance : decide (Func.isInstance Tryd.prog Tryd.f3 Rows.fnTakeOnceRow.origin Rows.fnTakeOnceRow.targs) = true := by kernel_rfl
theorem named : Tryd.prog.funcNamed Rows.fnTakeOnceRow.func = some 3 := by kernel_rfl
theorem over : Rows.fnTakeOnceRow.holds Tryd.pinned (OpenSpec.ofChange Rows.fnTakeOnceSpec) :=
  OpenClaim.holds_of_wide 3 Tryd.f3 rfl rfl rfl rfl rfl rfl rfl ⟨rfl, rfl, rfl, rfl, rfl⟩ rfl rfl rfl rfl rfl named Tryd.func3 closed
    (of_decide_eq_true noInstance) noWrapper
    (fun os started H enc _ => lifted os started H enc)

theorem looked : true = Tryd.pinned.checked.prog.looks [] := by kernel_rfl
/-- The statement. -/
theorem proved : Rows.FnTakeOnceCardSaid :=
  Claim7.holds_tied_plain_at .later [] [.sentinel, .sentinel] true (true, "001eeca1303be831eb74162102a44f1001d5e2a6b40793ab8a1b247fdb2dc515") true
    over (fun _ h => by cases h) (by kernel_rfl) (fun _ h => by cases h) fnTakeOnce_row_tie rfl ⟨rfl, rfl⟩ (by kernel_rfl) rfl
    (fun f fn hf hfn => by
      obtain rfl : f = 3 := Option.some.inj (named.symm.trans hf) |>.symm
      obtain rfl : fn = Tryd.f3 := (Option.some.inj (Tryd.func3.symm.trans hfn)).symm
      exact ⟨looked, fun j t ht => by
        rw [Tryd.params3] at ht
        have hm : t ∈ [22, 22] := by simpa using Array.mem_of_getElem? ht
        have hall : ([22, 22].all fun u => !Tryd.prog.wantsStandIn u) = true := by kernel_rfl
        exact (show Tryd.prog.wantsStandIn t = false by simpa using List.all_eq_true.1 hall t hm)⟩)
    (by kernel_rfl)
#print axioms proved
end Go.Proofs.YtkjolmbcafonaaaDoor.FnTakeOnce
