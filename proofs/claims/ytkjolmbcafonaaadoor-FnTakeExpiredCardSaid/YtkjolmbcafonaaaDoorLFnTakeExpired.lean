/- The law FnTakeExpired: only expired ranges are taken over. Proved for every input where the program's two error variables hold what the program's text lays in them (a tied card): the law's Go function returns true, and each argument reads afterwards as it read before. -/
import Derived.Test.YtkjolmbcafonaaaDoorSeat
import Derived.Test.YtkjolmbcafonaaaDoorDrawT
import Derived.Test.YtkjolmbcafonaaaDoorTake
import Derived.Test.YtkjolmbcafonaaaDoorSameT
import Derived.Test.YtkjolmbcafonaaaDoorTie
import Derived.Test.YtkjolmbcafonaaaDoorCards
import Derived.WalkKit
import Derived.ProofKit
import Derived.OpenShut
import Derived.ShutString
import Derived.ChangeOld
import Derived.Below
import Derived.OpenVars
import Derived.LaidMore
import Derived.Stop.Joined
import Derived.Stop.LaidTwo
import Derived.SevenTiedAt
namespace Go.Proofs.YtkjolmbcafonaaaDoor.FnTakeExpired
open Go.ChangeShapes Go.WideShapes Go.ChangeAt Go.RowKit Go.Stop
open Go.ChangeMaps (open_string shut_string)
set_option linter.unusedVariables false
set_option maxHeartbeats 400000

theorem tk_go {ys : List Tri} {key to now till : Int} (h : tkGo ys key to now till = true) : lval ys = true ∧ pos key = true ∧ pos to = true ∧ timeOk now = true ∧ timeOk till = true := by
  unfold tkGo at h
  rw [allPos2] at h
  simp only [Bool.and_eq_true] at h
  exact ⟨h.1, h.2.1.1, h.2.1.2, h.2.2.1, h.2.2.2⟩
theorem tk_lo {ys : List Tri} {k : Int} (h : lval ys = true) (hk : pos k = true) : loVal ys k = lof ys k := by
  have : loOk ys k = true := by unfold loOk; rw [h, hk]; rfl
  unfold loVal; rw [if_pos this]
set_option maxHeartbeats 4000000 in
theorem walk (A : Option Addr) (c : Nat) (xs : List Int) (a0 a1 : Addr) (w : World) (w0 : Arg .u8 w A c xs) (hS : Sent w a0 a1) : Calls Tryd.prog 4 #[.slice A xs.length c] w fun e w' => e = .returned (.bool true) ∧ Below w.heap.size w w' := by
  have HO := Lib.hid (drawTake_any A c xs w w0)
  obtain ⟨hl, hc, -, -⟩ := w0
  unfold maxLen at hc
  by_cases hbig : 1048576 < xs.length
  · go_enter Tryd.func4, Tryd.ntmps4
    go_wp2
    go_ret
    exact ⟨rfl, Below.refl _ _⟩
  have hsm : xs.length ≤ 1048576 := by omega
  clear hbig hl hc
  go_enter Tryd.func4, Tryd.ntmps4
  go_wp2_with fail
  refine HO.out.mono ?_; rintro e w1 ⟨A1, c1, ys, key, to, now, till, rfl, ho, hy12, ⟨k0, k1⟩, -, ⟨n0, n1⟩, ⟨t0, t1⟩, hB⟩
  clear HO
  obtain ⟨hlc, hcm⟩ := ho.len
  have hvl := tk_le ys key to now till
  have HI := fun (W : World) (h : OwnT W w.heap.size A1 c1 ys) (hw : Below w.heap.size w W) => Lib.hid (tk_impl W.heap.size A1 c1 ys key to now till a0 a1 hlc hcm W (Nat.le_refl _) h.tris (hS.below hw))
  have HS := fun (W : World) (h : OwnT W w.heap.size A1 c1 ys) => Lib.hid (tk_spec W.heap.size A1 c1 ys key to now till hlc hcm W (Nat.le_refl _) h.tris)
  have hvm : (tkL ys key to now till).length ≤ maxLen := by unfold maxLen; omega
  unfold TkRet at HI HS
  cases hgo : tkGo ys key to now till
  · have hL : tkL ys key to now till = [] := by unfold tkL; rw [hgo]; rfl
    have hN : tkB ys key to now till = false := by unfold tkB; rw [hgo]; rfl
    rw [hL, hN] at HI HS
    rw [hL] at hvm
    clear hL hN hvl
    go_wp2_with fail
    refine (HI w1 ho hB).out.mono ?_; rintro e w2 ⟨A2, c2, rfl, ho2, hb2⟩
    replace ho := ho.below hb2 (Nat.le_refl _)
    replace ho2 := ho2.base hB.size
    replace hB := below_next hB hb2
    clear hb2
    go_wp2_with fail
    refine (HS w2 ho).out.mono ?_; rintro e w3 ⟨A3, c3, rfl, ho3, hb3⟩
    replace ho := ho.below hb3 (Nat.le_refl _)
    replace ho2 := ho2.below hb3 (Nat.le_refl _)
    replace hB := below_next hB hb3
    have HO1 := Lib.hid ho
    have HO2 := Lib.hid ho2
    have HO3 := Lib.hid ho3
    clear hb3 ho2 ho3 ho HI HS
    go_wp2_with fail
    refine (sameT_self hvm _ HO2.out HO3.out).mono ?_; rintro e w4 ⟨rfl, hd4⟩
    replace HO1 := Lib.hid (HO1.out.below (below_draw hd4) (Nat.le_refl _))
    replace HO2 := Lib.hid (HO2.out.below (below_draw hd4) (Nat.le_refl _))
    replace HO3 := Lib.hid (HO3.out.below (below_draw hd4) (Nat.le_refl _))
    replace hB := below_next hB (below_draw hd4)
    clear hd4
    go_wp2_with fail
    refine (sameT_self hvm _ HO2.out HO3.out).mono ?_; rintro e w5 ⟨rfl, hd5⟩
    go_wp2
    go_ret
    exact ⟨rfl, below_next hB (below_draw hd5)⟩
  obtain ⟨hlv, hpk, -, -, -⟩ := tk_go hgo
  obtain ⟨hl1, hl2⟩ := lval_len hlv
  have HH := fun (W : World) (h : OwnT W w.heap.size A1 c1 ys) => Lib.hid (holder_any W.heap.size A1 c1 ys key hlc hcm W (Nat.le_refl _) h.tris)
  rw [tk_lo hlv hpk] at HH
  by_cases hex : (lof ys key).2.2 < now
  · have hL : tkL ys key to now till = seizeT ys key to till := by unfold tkL; rw [if_pos hgo, if_pos hex]
    have hN : tkB ys key to now till = true := by unfold tkB; rw [hgo, decide_eq_true hex]; rfl
    have hlen : (tkL ys key to now till).length = ys.length := by rw [hL, seize_len]
    rw [hN] at HI HS
    clear hL hN hgo hlv hpk
    generalize tkL ys key to now till = L at HI HS hvm hvl hlen
    generalize lof ys key = v at HH hex
    have hneb : ((L.length : Int) == 0) = false := by rw [beq_eq_false_iff_ne]; omega
    have hnz : ¬ L.length = 0 := by omega
    clear hlen
    go_wp2_with fail
    refine (HI w1 ho hB).out.mono ?_; rintro e w2 ⟨A2, c2, rfl, ho2, hb2⟩
    replace ho := ho.below hb2 (Nat.le_refl _)
    replace ho2 := ho2.base hB.size
    replace hB := below_next hB hb2
    clear hb2
    go_wp2_with fail
    refine (HS w2 ho).out.mono ?_; rintro e w3 ⟨A3, c3, rfl, ho3, hb3⟩
    replace ho := ho.below hb3 (Nat.le_refl _)
    replace ho2 := ho2.below hb3 (Nat.le_refl _)
    replace hB := below_next hB hb3
    have HO1 := Lib.hid ho
    have HO2 := Lib.hid ho2
    have HO3 := Lib.hid ho3
    clear hb3 ho2 ho3 ho HI HS
    go_wp2_with fail
    refine (sameT_self hvm _ HO2.out HO3.out).mono ?_; rintro e w4 ⟨rfl, hd4⟩
    replace HO1 := Lib.hid (HO1.out.below (below_draw hd4) (Nat.le_refl _))
    replace HO2 := Lib.hid (HO2.out.below (below_draw hd4) (Nat.le_refl _))
    replace HO3 := Lib.hid (HO3.out.below (below_draw hd4) (Nat.le_refl _))
    replace hB := below_next hB (below_draw hd4)
    clear hd4
    have HH4 := HH w4 HO1.out
    clear HH
    go_wp2_with fail
    refine HH4.out.mono ?_; rintro e w5 ⟨rfl, hb5⟩
    go_wp2
    go_ret
    exact ⟨rfl, below_next hB hb5⟩
  · have hL : tkL ys key to now till = ys := by unfold tkL; rw [if_pos hgo, if_neg hex]
    have hN : tkB ys key to now till = false := by unfold tkB; rw [hgo, decide_eq_false hex]; rfl
    rw [hN, hL] at HI HS
    rw [hL] at hvm
    clear hL hN hgo hlv hpk hvl
    generalize lof ys key = v at HH hex
    have hneb : ((ys.length : Int) == 0) = false := by rw [beq_eq_false_iff_ne]; omega
    have hnz : ¬ ys.length = 0 := by omega
    have HX := Lib.hid hex
    clear hex
    go_wp2_with fail
    refine (HI w1 ho hB).out.mono ?_; rintro e w2 ⟨A2, c2, rfl, ho2, hb2⟩
    replace ho := ho.below hb2 (Nat.le_refl _)
    replace ho2 := ho2.base hB.size
    replace hB := below_next hB hb2
    clear hb2
    go_wp2_with fail
    refine (HS w2 ho).out.mono ?_; rintro e w3 ⟨A3, c3, rfl, ho3, hb3⟩
    replace ho := ho.below hb3 (Nat.le_refl _)
    replace ho2 := ho2.below hb3 (Nat.le_refl _)
    replace hB := below_next hB hb3
    have HO1 := Lib.hid ho
    have HO2 := Lib.hid ho2
    have HO3 := Lib.hid ho3
    clear hb3 ho2 ho3 ho HI HS
    go_wp2_with fail
    refine (sameT_self hvm _ HO2.out HO3.out).mono ?_; rintro e w4 ⟨rfl, hd4⟩
    replace HO1 := Lib.hid (HO1.out.below (below_draw hd4) (Nat.le_refl _))
    replace HO2 := Lib.hid (HO2.out.below (below_draw hd4) (Nat.le_refl _))
    replace HO3 := Lib.hid (HO3.out.below (below_draw hd4) (Nat.le_refl _))
    replace hB := below_next hB (below_draw hd4)
    clear hd4
    have HH4 := HH w4 HO1.out
    clear HH
    go_wp2_with fail
    refine HH4.out.mono ?_; rintro e w5 ⟨rfl, hb5⟩
    replace HO1 := Lib.hid (HO1.out.below hb5 (Nat.le_refl _))
    replace HO2 := Lib.hid (HO2.out.below hb5 (Nat.le_refl _))
    replace hB := below_next hB hb5
    clear HO3 HH4 hb5
    go_wp2_with fail
    refine (sameT_self hvm _ HO2.out HO1.out).mono ?_; rintro e w6 ⟨rfl, hd6⟩
    go_wp2
    go_ret
    exact ⟨ret_bool (by rw [decide_eq_false (by have := HX.out; omega)]; rfl), below_next hB (below_draw hd6)⟩

def laidD : List (String × DataW Unit) := [("loop.example/ringoverlay/impl.errArgs", Rows.laid_loop_example_ringoverlay_impl_errArgs), ("loop.example/ringoverlay/impl.errRefused", Rows.laid_loop_example_ringoverlay_impl_errRefused)]
theorem gA : Tryd.prog.globalNamed "loop.example/ringoverlay/impl.errArgs" = some 0 := by kernel_rfl
theorem gR : Tryd.prog.globalNamed "loop.example/ringoverlay/impl.errRefused" = some 1 := by kernel_rfl
theorem gAT : (Tryd.prog.globals[0]?).map (·.type) = some 44 := by kernel_rfl
theorem gRT : (Tryd.prog.globals[1]?).map (·.type) = some 44 := by kernel_rfl
theorem cellsE : Tryd.prog.cellsOf 105 = 1 := by kernel_rfl
theorem cellsS : Tryd.prog.cellsOf 9 = 1 := by kernel_rfl
theorem star : "*" ++ "errors.errorString" = "*errors.errorString" := by decide
theorem rowE (u : TypeId) (h : Tryd.prog.typeName? 3 u = some "*errors.errorString") : u = 79 :=
  typeName_ptr_named (nm := "errors.errorString") (by rw [star]; kernel_rfl) (by kernel_rfl) (by decide) u (by rw [star]; exact h)
/-- What the condition on the two variables gives. -/
theorem sent_of {W : World} (h : laidMetH Tryd.prog laidD W) : ∃ a0 a1, Sent W a0 a1 := by
  rw [MakeChecks.laidMetH_plain _ _ _ (by kernel_rfl)] at h
  obtain ⟨a0, a1, s0, s1, c0, c1, t0, t1, hv0, hv1, hc0, hs0, hz0, hc1, hs1, hz1, hne, hb0, hb1⟩ := laid_sentinels2 h gA gAT gR gRT Tryd.underlying44 rowE Tryd.underlying79 Tryd.underlying105 rfl rfl Tryd.underlying9 cellsE cellsS
  exact ⟨a0, a1, by simpa using World.var?_cell gA hv0 0, by simpa using World.var?_cell gR hv1 0, hne, ⟨_, _, hb0⟩, ⟨_, _, hb1⟩⟩
theorem door_met (os : Os) (args : Array Value) : laidMetH Tryd.prog laidD ((World.doorLaid Tryd.prog 400 os).forCall (fun _ _ => 0) ⟨#[], args, []⟩).memory :=
  laidMetH_of_parts3 (fuel := 8) (laidMet_of_run' 8 (by kernel_rfl) (by kernel_rfl)) (by kernel_rfl) (by kernel_rfl)
set_option maxRecDepth 100000 in
theorem lifted (os : Os) (started : os.Started) (H : Type) (enc : TypeId × Value → H) :
    ReturnsInHanded {} Tryd.checked os 4 .any (fun w args => (Rows.fnTakeExpiredSpec.pre enc Tryd.prog Tryd.f4 [] false w args ∧ laidMetH Tryd.prog laidD w) ∧ sizedMet enc Tryd.prog Tryd.f4 (OpenSpec.ofChange Rows.fnTakeExpiredSpec) false w args)
      (Rows.fnTakeExpiredSpec.post enc Tryd.prog Tryd.f4 false true false false) := by
  refine returnsInHanded_of_change_and (C := Tryd.checked) (X := fun w _ => laidMetH Tryd.prog laidD w) (fun _ _ _ hh h => h.of_heap hh) own started (by kernel_rfl) Tryd.func4
    (ChangeSpec.witness_shaped (enc := enc) (C := Tryd.checked) (os := os) (X := fun w _ => laidMetH Tryd.prog laidD w) false (World.doorLaid Tryd.prog 400 os) #[.slice none 0 0] 8 rfl (World.shaped_of_RefB (by kernel_rfl) (by kernel_rfl)) (by kernel_rfl) (by kernel_rfl) (by kernel_rfl) (door_met os _)) ?_
  intro W base args ds gs before hval0 hW _ _ hL _
  have hval : ∀ (j : Nat) t v, Tryd.f4.params[j]? = some t → args[j]? = some v → Value.okWide Tryd.prog W .any base t v := hval0
  have hW' := hW
  obtain ⟨p, q, hA0, hV, rfl, hfz, hnd⟩ := hW
  have hA : DataW.TrodAll enc Tryd.prog W 0 (fun _ => true) true Tryd.f4.params.toList args.toList ds p := hA0
  rw [Tryd.params4] at hA hval
  obtain ⟨v0, vs0, d0, ds0, p0, q0, hargs, rfl, rfl, h0, r0⟩ := trodAll_cons hA
  obtain ⟨rfl, rfl, rfl⟩ := trodAll_nil r0
  obtain rfl : args = #[v0] := by cases args; simp_all
  have hV2 : DataW.TrodVars enc Tryd.prog W (fun _ => true) ["loop.example/ringoverlay/impl.errArgs", "loop.example/ringoverlay/impl.errRefused"] gs q := hV
  obtain ⟨gA', gR', hgs⟩ : ∃ x y, gs = [x, y] := by obtain ⟨_, _, _, _, d0, _, _, _, _, _, d1, _, h, _⟩ := trodVars_two hV2; exact ⟨d0, d1, h⟩
  subst hgs
  obtain ⟨b0, b1, hS⟩ := sent_of hL
  obtain ⟨A0, len0, c0, rfl⟩ := okWide_slice Tryd.underlying22 (hval 0 22 v0 rfl rfl)
  have k0 := h0
  have lt0 : ∀ x ∈ p0, x.block < W.heap.size := by obtain ⟨m, hm⟩ := k0; exact DataW.trod_lt m _ _ _ hm
  obtain ⟨xs0, rfl, w0⟩ : ∃ xs : List Int, xs.length = len0 ∧ Arg .u8 W A0 c0 xs := by
    obtain ⟨fuel, hf⟩ := h0
    rcases open_ints Tryd.underlying22 Tryd.underlying5 (by kernel_rfl) hf with ⟨hcs, _⟩ | ⟨x, l, c, zs, hcs, _, hl, hm, hz, _, hcell, hwz⟩
    · simp [Value.cells] at hcs
      obtain ⟨rfl, rfl, rfl⟩ := hcs
      exact Arg.none_
    · simp [Value.cells] at hcs
      obtain ⟨rfl, rfl, rfl⟩ := hcs
      exact Arg.row hl hm (by simpa using hz) hcell hwz
  clear hA0 hval0
  refine (walk A0 c0 xs0 b0 b1 W w0 hS).mono fun e W' ⟨he, bel⟩ => ?_
  subst he
  exact ⟨_, rfl, _, _, _, [], _, q, hW', trodAll_mk1 (shut_bool Tryd.underlying4 _), (trodAll_cons_mk (Below.trod laidOut (by kernel_rfl) (of_decide_eq_true (by kernel_rfl)) k0 bel lt0) trodAll_mk0), bel.trodVars laidOut (by kernel_rfl) hV2, bel.frame _, fun h => by cases h⟩

theorem nm : Tryd.f4.name = Rows.fnTakeExpiredRow.func := by kernel_rfl
theorem notMain : decide (Check.packageOf Rows.fnTakeExpiredRow.func = "main") = false := by kernel_rfl
theorem noWrapper : Func.isWrapper Tryd.prog Tryd.f4 Rows.fnTakeExpiredRow.wrapper Rows.fnTakeExpiredRow.mainSum := by
  unfold Func.isWrapper; rw [nm, if_neg (of_decide_eq_false notMain)]; exact ⟨rfl, rfl⟩
theorem closed : joinedFacts Tryd.prog 4 Tryd.f4 Rows.fnTakeExpiredSpec Rows.fnTakeExpiredRow = true := by
  unfold joinedFacts
  exact (andI (andI (andI (andI (andI (andI (andI (andI (andI (andI (andI (andI (andI (andI (andI (andI (andI (andI (andI (andI (andI (andI (andI (andI (andI (andI (andI (andI (andI (andI (andI (by kernel_rfl) laidOut) rowed) (by kernel_rfl)) (by kernel_rfl)) (by kernel_rfl)) (by kernel_rfl)) (by kernel_rfl)) (by kernel_rfl)) (by kernel_rfl)) (by kernel_rfl)) (by kernel_rfl)) (by kernel_rfl)) (by kernel_rfl)) (by kernel_rfl)) (by kernel_rfl)) (by kernel_rfl)) (by kernel_rfl)) (by kernel_rfl)) (by kernel_rfl)) (by kernel_rfl)) (by kernel_rfl)) (by rw [plain_keys]; kernel_rfl)) (by kernel_rfl)) heard) mayEnter) (by rw [liftsFinal]; kernel_rfl)) (by rw [makeCut]; kernel_rfl)) (by kernel_rfl)) (by kernel_rfl)) (by kernel_rfl)) (by kernel_rfl))
theorem noInstance : decide (Func.isInstance Tryd.prog Tryd.f4 Rows.fnTakeExpiredRow.origin Rows.fnTakeExpiredRow.targs) = true := by kernel_rfl
theorem named : Tryd.prog.funcNamed Rows.fnTakeExpiredRow.func = some 4 := by kernel_rfl
theorem over : Rows.fnTakeExpiredRow.holds Tryd.pinned (OpenSpec.ofChange Rows.fnTakeExpiredSpec) :=
  OpenClaim.holds_of_wide 4 Tryd.f4 rfl rfl rfl rfl rfl rfl rfl ⟨rfl, rfl, rfl, rfl, rfl⟩ rfl rfl rfl rfl rfl named Tryd.func4 closed
    (of_decide_eq_true noInstance) noWrapper
    (fun os started H enc _ => lifted os started H enc)

theorem looked : true = Tryd.pinned.checked.prog.looks [] := by kernel_rfl
/-- The statement. -/
theorem proved : Rows.FnTakeExpiredCardSaid :=
  Claim7.holds_tied_plain_at .later [] [.sentinel, .sentinel] true (true, "001eeca1303be831eb74162102a44f1001d5e2a6b40793ab8a1b247fdb2dc515") true
    over (fun _ h => by cases h) (by kernel_rfl) (fun _ h => by cases h) fnTakeExpired_row_tie rfl ⟨rfl, rfl⟩ (by kernel_rfl) rfl
    (fun f fn hf hfn => by
      obtain rfl : f = 4 := Option.some.inj (named.symm.trans hf) |>.symm
      obtain rfl : fn = Tryd.f4 := (Option.some.inj (Tryd.func4.symm.trans hfn)).symm
      exact ⟨looked, fun j t ht => by
        rw [Tryd.params4] at ht
        have hm : t ∈ [22] := by simpa using Array.mem_of_getElem? ht
        have hall : ([22].all fun u => !Tryd.prog.wantsStandIn u) = true := by kernel_rfl
        exact (show Tryd.prog.wantsStandIn t = false by simpa using List.all_eq_true.1 hall t hm)⟩)
    (by kernel_rfl)
#print axioms proved
end Go.Proofs.YtkjolmbcafonaaaDoor.FnTakeExpired
