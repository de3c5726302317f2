/- The law FnTakeRange: a whole range is taken over. Proved for every input where the program's two error variables hold what the program's text lays in them (a tied card): the law's Go function returns true, and each argument reads afterwards as it read before. -/
import Derived.Test.YtkjolmbcafonaaaDoorSeat
import Derived.Test.YtkjolmbcafonaaaDoorDrawT
import Derived.Test.YtkjolmbcafonaaaDoorTake
import Derived.Test.YtkjolmbcafonaaaDoorSameT
import Derived.Test.YtkjolmbcafonaaaDoorTie
import Derived.Test.YtkjolmbcafonaaaDoorCards
import Derived.WalkKit
import Derived.ProofKit
import Derived.OpenShut
import Derived.ShutString
import Derived.ChangeOld
import Derived.Below
import Derived.OpenVars
import Derived.LaidMore
import Derived.Stop.Joined
import Derived.Stop.LaidTwo
import Derived.SevenTiedAt
namespace Go.Proofs.YtkjolmbcafonaaaDoor.FnTakeRange
open Go.ChangeShapes Go.WideShapes Go.ChangeAt Go.RowKit Go.Stop
open Go.ChangeMaps (open_string shut_string)
set_option linter.unusedVariables false
set_option maxHeartbeats 400000

theorem tk_go {ys : List Tri} {key to now till : Int} (h : tkGo ys key to now till = true) : lval ys = true ∧ pos key = true ∧ pos to = true ∧ timeOk now = true ∧ timeOk till = true := by
  unfold tkGo at h
  rw [allPos2] at h
  simp only [Bool.and_eq_true] at h
  exact ⟨h.1, h.2.1.1, h.2.1.2, h.2.2.1, h.2.2.2⟩
theorem tk_lo {ys : List Tri} {k : Int} (h : lval ys = true) (hk : pos k = true) : loVal ys k = lof ys k := by
  have : loOk ys k = true := by unfold loOk; rw [h, hk]; rfl
  unfold loVal; rw [if_pos this]
theorem tk_range {ys : List Tri} {key to now till : Int} (h : tkB ys key to now till = true) : lval ys = true ∧ pos key = true ∧ lval (tkL ys key to now till) = true ∧ (tkL ys key to now till).length = ys.length ∧
    ∀ k : Nat, k < 64 → (loVal ys (k : Int) = lof ys key → (loVal (tkL ys key to now till) (k : Int)).2 = (to, till)) ∧ (¬ loVal ys (k : Int) = lof ys key → (loVal (tkL ys key to now till) (k : Int)).2 = (loVal ys (k : Int)).2) := by
  unfold tkB at h
  rw [Bool.and_eq_true, decide_eq_true_iff] at h
  obtain ⟨hgo, hex⟩ := h
  obtain ⟨h1, h2, h3, h4, h5⟩ := tk_go hgo
  have hl := (lval_len h1).1
  have hL : tkL ys key to now till = seizeT ys key to till := by unfold tkL; rw [if_pos hgo, if_pos hex]
  rw [hL]
  have hv := seize_valid (key := key) h1 h3 h5
  refine ⟨h1, h2, hv, seize_len _ _ _ _, fun k hk => ?_⟩
  have hp : pos (k : Int) = true := pos_iff.2 ⟨by omega, by omega⟩
  rw [tk_lo h1 hp, tk_lo hv hp, seize_lof hl]
  have ha := lof_at hl (k : Int)
  have hb := lof_at hl key
  have hiff : lof ys (k : Int) = lof ys key ↔ lat ys (k : Int) = lat ys key := by
    constructor
    · intro e; exact end_inj (lval_iff.1 h1).2.2 ha hb (by rw [e])
    · intro e; rw [e, hb] at ha; injection ha with ha; exact ha.symm
  constructor
  · intro e; rw [if_pos (hiff.1 e)]
  · intro e; rw [if_neg (fun h => e (hiff.2 h))]
set_option maxRecDepth 100000 in
set_option maxHeartbeats 4000000 in
theorem walk (A : Option Addr) (c : Nat) (xs : List Int) (a0 a1 : Addr) (w : World) (w0 : Arg .u8 w A c xs) (hS : Sent w a0 a1) : Calls Tryd.prog 5 #[.slice A xs.length c] w fun e w' => e = .returned (.bool true) ∧ Below w.heap.size w w' := by
  have HO := Lib.hid (drawTake_any A c xs w w0)
  obtain ⟨hl, hc, -, -⟩ := w0
  unfold maxLen at hc
  by_cases hbig : 1048576 < xs.length
  · go_enter Tryd.func5, Tryd.ntmps5
    go_wp2
    go_ret
    exact ⟨rfl, Below.refl _ _⟩
  have hsm : xs.length ≤ 1048576 := by omega
  clear hbig hl hc
  go_enter Tryd.func5, Tryd.ntmps5
  go_wp2_with fail
  refine HO.out.mono ?_; rintro e w1 ⟨A1, c1, ys, key, to, now, till, rfl, ho, hy12, ⟨k0, k1⟩, -, ⟨n0, n1⟩, ⟨t0, t1⟩, hB⟩
  clear HO
  obtain ⟨hlc, hcm⟩ := ho.len
  have hvl := tk_le ys key to now till
  have HI := fun (W : World) (h : OwnT W w.heap.size A1 c1 ys) (hw : Below w.heap.size w W) => Lib.hid (tk_impl W.heap.size A1 c1 ys key to now till a0 a1 hlc hcm W (Nat.le_refl _) h.tris (hS.below hw))
  have HS := fun (W : World) (h : OwnT W w.heap.size A1 c1 ys) => Lib.hid (tk_spec W.heap.size A1 c1 ys key to now till hlc hcm W (Nat.le_refl _) h.tris)
  have hvm : (tkL ys key to now till).length ≤ maxLen := by unfold maxLen; omega
  unfold TkRet at HI HS
  cases hN : tkB ys key to now till
  · rw [hN] at HI HS
    generalize tkL ys key to now till = L at HI HS hvm hvl
    clear hN
    go_wp2_with fail
    refine (HI w1 ho hB).out.mono ?_; rintro e w2 ⟨A2, c2, rfl, ho2, hb2⟩
    replace ho := ho.below hb2 (Nat.le_refl _)
    replace ho2 := ho2.base hB.size
    replace hB := below_next hB hb2
    clear hb2
    go_wp2_with fail
    refine (HS w2 ho).out.mono ?_; rintro e w3 ⟨A3, c3, rfl, ho3, hb3⟩
    replace ho := ho.below hb3 (Nat.le_refl _)
    replace ho2 := ho2.below hb3 (Nat.le_refl _)
    replace hB := below_next hB hb3
    have HO1 := Lib.hid ho
    have HO2 := Lib.hid ho2
    have HO3 := Lib.hid ho3
    clear hb3 ho2 ho3 ho HI HS
    go_wp2_with fail
    refine (sameT_self hvm _ HO2.out HO3.out).mono ?_; rintro e w4 ⟨rfl, hd4⟩
    replace HO1 := Lib.hid (HO1.out.below (below_draw hd4) (Nat.le_refl _))
    replace HO2 := Lib.hid (HO2.out.below (below_draw hd4) (Nat.le_refl _))
    replace HO3 := Lib.hid (HO3.out.below (below_draw hd4) (Nat.le_refl _))
    replace hB := below_next hB (below_draw hd4)
    clear hd4
    go_wp2_with fail
    refine (sameT_self hvm _ HO2.out HO3.out).mono ?_; rintro e w5 ⟨rfl, hd5⟩
    go_wp2
    go_ret
    exact ⟨rfl, below_next hB (below_draw hd5)⟩
  · obtain ⟨hlv, hpk, hlv2, hlen, hrg⟩ := tk_range hN
    have HR := Lib.hid hrg
    have HLV2 := Lib.hid hlv2
    have HK := fun (k : Nat) (hk : k < 64) => Lib.hid (show loOk ys (k : Int) = true from by unfold loOk; rw [hlv, pos_iff.2 ⟨by omega, by omega⟩]; rfl)
    have HLO := fun (o : Int) (W : World) (h : OwnT W w.heap.size A1 c1 ys) => Lib.hid (lo_impl W.heap.size A1 c1 ys o hlc hcm W (Nat.le_refl _) h.tris)
    unfold LoRet at HLO
    have hko : loOk ys key = true := by unfold loOk; rw [hlv, hpk]; rfl
    have hlo := tk_lo hlv hpk
    have HH1 := fun (k : Nat) (W : World) (h : OwnT W w.heap.size A1 c1 ys) => Lib.hid (holder_any W.heap.size A1 c1 ys (k : Int) hlc hcm W (Nat.le_refl _) h.tris)
    rw [hN] at HI HS
    generalize tkL ys key to now till = L at HI HS hvm hvl hlen HR HLV2
    have HH2 := fun (k : Nat) (A5 : Option Addr) (c5 : Nat) (W : World) (h : OwnT W w.heap.size A5 c5 L) => Lib.hid (holder_any W.heap.size A5 c5 L (k : Int) h.len.1 h.len.2 W (Nat.le_refl _) h.tris)
    have HLEN := Lib.hid hlen
    clear hN hlv hlv2 hrg hpk hlen
    go_wp2_with fail
    refine (HI w1 ho hB).out.mono ?_; rintro e w2 ⟨A2, c2, rfl, ho2, hb2⟩
    replace ho := ho.below hb2 (Nat.le_refl _)
    replace ho2 := ho2.base hB.size
    replace hB := below_next hB hb2
    clear hb2
    go_wp2_with fail
    refine (HS w2 ho).out.mono ?_; rintro e w3 ⟨A3, c3, rfl, ho3, hb3⟩
    replace ho := ho.below hb3 (Nat.le_refl _)
    replace ho2 := ho2.below hb3 (Nat.le_refl _)
    replace hB := below_next hB hb3
    have HO1 := Lib.hid ho
    have HO2 := Lib.hid ho2
    have HO3 := Lib.hid ho3
    clear hb3 ho2 ho3 ho HI HS
    go_wp2_with fail
    refine (sameT_self hvm _ HO2.out HO3.out).mono ?_; rintro e w4 ⟨rfl, hd4⟩
    replace HO1 := Lib.hid (HO1.out.below (below_draw hd4) (Nat.le_refl _))
    replace HO2 := Lib.hid (HO2.out.below (below_draw hd4) (Nat.le_refl _))
    replace HO3 := Lib.hid (HO3.out.below (below_draw hd4) (Nat.le_refl _))
    replace hB := below_next hB (below_draw hd4)
    clear hd4
    have h4 := HLO key w4 HO1.out
    rw [hko, hlo] at h4
    clear hko hlo HO3
    generalize lof ys key = v at h4 HR
    go_wp2_with fail
    refine h4.out.mono ?_; rintro e w5 ⟨rfl, hb5⟩
    replace HO1 := Lib.hid ((HO1.out.below hb5 (Nat.le_refl _)).alloc (.cells #[.int .i64 v.1, .int .i64 v.2.1, .int .i64 v.2.2] 34 (0, 0)))
    replace HO2 := Lib.hid ((HO2.out.below hb5 (Nat.le_refl _)).alloc (.cells #[.int .i64 v.1, .int .i64 v.2.1, .int .i64 v.2.2] 34 (0, 0)))
    have HT := Lib.hid (alloc_top w5 (.cells #[.int .i64 v.1, .int .i64 v.2.1, .int .i64 v.2.2] 34 (0, 0)))
    have hlt5 : w5.heap.size < (w5.alloc (.cells #[.int .i64 v.1, .int .i64 v.2.1, .int .i64 v.2.2] 34 (0, 0))).heap.size := by simp
    replace hB := (below_next hB hb5).alloc (below_next hB hb5).size (.cells #[.int .i64 v.1, .int .i64 v.2.1, .int .i64 v.2.2] 34 (0, 0))
    clear hb5 h4
    go_wp2_with fail
    generalize w5.alloc (.cells #[.int .i64 v.1, .int .i64 v.2.1, .int .i64 v.2.2] 34 (0, 0)) = W5 at HO1 HO2 HT hlt5 hB ⊢
    obtain ⟨v1, v2, v3⟩ := v
    go_loopw [14] (fun i wr => ∃ k : Nat, k ≤ 64 ∧ i = .int .i64 k ∧ wr.heap[w5.heap.size]? = some (.cells #[.int .i64 v1, .int .i64 v2, .int .i64 v3] 34 (0, 0)) ∧ OwnT wr w.heap.size A1 c1 ys ∧ OwnT wr w.heap.size A2 c2 L ∧ Below w.heap.size w wr) (fun i _ => 64 - (intOf i).toNat)
    case atStart => exact ⟨0, by omega, rfl, HT.out, HO1.out, HO2.out, hB⟩
    case round =>
      clear HO1 HO2 HT hB hlt5
      obtain ⟨k, hk, rfl, ht, ho, ho2, hB⟩ := hrel
      have hlb : w5.heap.size < wr.heap.size := (Array.getElem?_eq_some_iff.1 ht).1
      by_cases hlt : k < 64
      · have h1 := HLO (k : Int) wr ho
        rw [(HK k hlt).out] at h1
        have h2 := HH1 k
        have h3 := HH2 k A2 c2
        obtain ⟨hr1, hr2⟩ := HR.out k hlt
        generalize loVal ys (k : Int) = u at h1 h2 hr1 hr2
        generalize loVal L (k : Int) = z at h3 hr1 hr2
        obtain ⟨u1, u2, u3⟩ := u
        obtain ⟨z1, z2, z3⟩ := z
        simp only at h1 h2 h3 hr1 hr2
        have HHT := Lib.hid ht
        have HO1 := Lib.hid ho
        have HO2 := Lib.hid ho2
        have HR1 := Lib.hid hr1
        have HR2 := Lib.hid hr2
        clear HLO HH1 HH2 HK HR ht ho ho2 hr1 hr2
        go_wp2_with fail
        refine h1.out.mono ?_; rintro e w6 ⟨rfl, hb6⟩
        have hb7 : Below wr.heap.size wr (w6.alloc (.cells #[.int .i64 u1, .int .i64 u2, .int .i64 u3] 34 (0, 0))) := hb6.alloc hb6.size _
        have HM := Lib.hid (alloc_top w6 (.cells #[.int .i64 u1, .int .i64 u2, .int .i64 u3] 34 (0, 0)))
        have hlt6 : w6.heap.size < (w6.alloc (.cells #[.int .i64 u1, .int .i64 u2, .int .i64 u3] 34 (0, 0))).heap.size := by simp
        have hl56 : w5.heap.size < w6.heap.size := Nat.lt_of_lt_of_le hlb hb6.size
        clear h1 hb6
        go_wp2_with fail
        generalize w6.alloc (.cells #[.int .i64 u1, .int .i64 u2, .int .i64 u3] 34 (0, 0)) = W6 at hb7 HM hlt6 ⊢
        replace HO1 := Lib.hid (HO1.out.below hb7 (Nat.le_refl _))
        replace HO2 := Lib.hid (HO2.out.below hb7 (Nat.le_refl _))
        replace HHT := Lib.hid ((hb7.block _ hlb).trans HHT.out)
        replace hB := below_next (w1 := wr) hB hb7
        have h4 := h2 W6 HO1.out
        clear h2 hb7
        refine h4.out.mono ?_; rintro e w7 ⟨rfl, hb8⟩
        replace HO1 := Lib.hid (HO1.out.below hb8 (Nat.le_refl _))
        replace HO2 := Lib.hid (HO2.out.below hb8 (Nat.le_refl _))
        replace HHT := Lib.hid ((hb8.block _ (Array.getElem?_eq_some_iff.1 HHT.out).1).trans HHT.out)
        replace HM := Lib.hid ((hb8.block _ hlt6).trans HM.out)
        replace hB := below_next hB hb8
        have h5 := h3 w7 HO2.out
        clear h3 h4 hb8 hlt6
        go_wp2_with fail
        refine h5.out.mono ?_; rintro e w8 ⟨rfl, hb9⟩
        replace HO1 := Lib.hid (HO1.out.below hb9 (Nat.le_refl _))
        replace HO2 := Lib.hid (HO2.out.below hb9 (Nat.le_refl _))
        replace HHT := Lib.hid ((hb9.block _ (Array.getElem?_eq_some_iff.1 HHT.out).1).trans HHT.out)
        replace HM := Lib.hid ((hb9.block _ (Array.getElem?_eq_some_iff.1 HM.out).1).trans HM.out)
        replace hB := below_next hB hb9
        clear h5 hb9
        obtain ⟨q1, q2, q3⟩ := cells3 HHT.out
        obtain ⟨r1, r2, r3⟩ := cells3 HM.out
        by_cases m1 : u1 = v1
        · by_cases m2 : u2 = v2
          · by_cases m3 : u3 = v3
            · subst m1 m2 m3
              have he := HR1.out rfl
              injection he with he1 he2
              subst he1 he2
              go_wp2
              go_roundw
              case rel => exact ⟨k + 1, by omega, by go_num, HHT.out, HO1.out, HO2.out, hB⟩
              case measure => simp [intOf]; omega
            · have m3b : (u3 == v3) = false := by rw [beq_eq_false_iff_ne]; exact m3
              have he := HR2.out (fun e => m3 (by injection e with _ e; injection e with _ e))
              injection he with he1 he2
              subst m1 m2 he1 he2
              go_wp2
              go_roundw
              case rel => exact ⟨k + 1, by omega, by go_num, HHT.out, HO1.out, HO2.out, hB⟩
              case measure => simp [intOf]; omega
          · have m2b : (u2 == v2) = false := by rw [beq_eq_false_iff_ne]; exact m2
            have he := HR2.out (fun e => m2 (by injection e with _ e; injection e with e _))
            injection he with he1 he2
            subst m1 he1 he2
            go_wp2
            go_roundw
            case rel => exact ⟨k + 1, by omega, by go_num, HHT.out, HO1.out, HO2.out, hB⟩
            case measure => simp [intOf]; omega
        · have m1b : (u1 == v1) = false := by rw [beq_eq_false_iff_ne]; exact m1
          have he := HR2.out (fun e => m1 (by injection e with e _))
          injection he with he1 he2
          subst he1 he2
          go_wp2
          go_roundw
          case rel => exact ⟨k + 1, by omega, by go_num, HHT.out, HO1.out, HO2.out, hB⟩
          case measure => simp [intOf]; omega
      · have HV2 := Lib.hid (lv_impl wr.heap.size A2 c2 L ho2.len.1 ho2.len.2 wr (Nat.le_refl _) ho2.tris)
        rw [HLV2.out] at HV2
        have hll : (L.length : Int) = (ys.length : Int) := by rw [HLEN.out]
        clear HLO HH1 HH2 HK HR ht ho ho2
        go_wp2_with fail
        refine HV2.out.mono ?_; rintro e w6 ⟨rfl, hb6⟩
        go_wp2
        go_ret
        exact ⟨rfl, below_next (w1 := wr) hB hb6⟩

def laidD : List (String × DataW Unit) := [("loop.example/ringoverlay/impl.errArgs", Rows.laid_loop_example_ringoverlay_impl_errArgs), ("loop.example/ringoverlay/impl.errRefused", Rows.laid_loop_example_ringoverlay_impl_errRefused)]
theorem gA : Tryd.prog.globalNamed "loop.example/ringoverlay/impl.errArgs" = some 0 := by kernel_rfl
theorem gR : Tryd.prog.globalNamed "loop.example/ringoverlay/impl.errRefused" = some 1 := by kernel_rfl
theorem gAT : (Tryd.prog.globals[0]?).map (·.type) = some 44 := by kernel_rfl
theorem gRT : (Tryd.prog.globals[1]?).map (·.type) = some 44 := by kernel_rfl
theorem cellsE : Tryd.prog.cellsOf 105 = 1 := by kernel_rfl
theorem cellsS : Tryd.prog.cellsOf 9 = 1 := by kernel_rfl
theorem star : "*" ++ "errors.errorString" = "*errors.errorString" := by decide
theorem rowE (u : TypeId) (h : Tryd.prog.typeName? 3 u = some "*errors.errorString") : u = 79 :=
  typeName_ptr_named (nm := "errors.errorString") (by rw [star]; kernel_rfl) (by kernel_rfl) (by decide) u (by rw [star]; exact h)
/-- What the condition on the two variables gives. -/
theorem sent_of {W : World} (h : laidMetH Tryd.prog laidD W) : ∃ a0 a1, Sent W a0 a1 := by
  rw [MakeChecks.laidMetH_plain _ _ _ (by kernel_rfl)] at h
  obtain ⟨a0, a1, s0, s1, c0, c1, t0, t1, hv0, hv1, hc0, hs0, hz0, hc1, hs1, hz1, hne, hb0, hb1⟩ := laid_sentinels2 h gA gAT gR gRT Tryd.underlying44 rowE Tryd.underlying79 Tryd.underlying105 rfl rfl Tryd.underlying9 cellsE cellsS
  exact ⟨a0, a1, by simpa using World.var?_cell gA hv0 0, by simpa using World.var?_cell gR hv1 0, hne, ⟨_, _, hb0⟩, ⟨_, _, hb1⟩⟩
theorem door_met (os : Os) (args : Array Value) : laidMetH Tryd.prog laidD ((World.doorLaid Tryd.prog 400 os).forCall (fun _ _ => 0) ⟨#[], args, []⟩).memory :=
  laidMetH_of_parts3 (fuel := 8) (laidMet_of_run' 8 (by kernel_rfl) (by kernel_rfl)) (by kernel_rfl) (by kernel_rfl)
set_option maxRecDepth 100000 in
theorem lifted (os : Os) (started : os.Started) (H : Type) (enc : TypeId × Value → H) :
    ReturnsInHanded {} Tryd.checked os 5 .any (fun w args => (Rows.fnTakeRangeSpec.pre enc Tryd.prog Tryd.f5 [] false w args ∧ laidMetH Tryd.prog laidD w) ∧ sizedMet enc Tryd.prog Tryd.f5 (OpenSpec.ofChange Rows.fnTakeRangeSpec) false w args)
      (Rows.fnTakeRangeSpec.post enc Tryd.prog Tryd.f5 false true false false) := by
  refine returnsInHanded_of_change_and (C := Tryd.checked) (X := fun w _ => laidMetH Tryd.prog laidD w) (fun _ _ _ hh h => h.of_heap hh) own started (by kernel_rfl) Tryd.func5
    (ChangeSpec.witness_shaped (enc := enc) (C := Tryd.checked) (os := os) (X := fun w _ => laidMetH Tryd.prog laidD w) false (World.doorLaid Tryd.prog 400 os) #[.slice none 0 0] 8 rfl (World.shaped_of_RefB (by kernel_rfl) (by kernel_rfl)) (by kernel_rfl) (by kernel_rfl) (by kernel_rfl) (door_met os _)) ?_
  intro W base args ds gs before hval0 hW _ _ hL _
  have hval : ∀ (j : Nat) t v, Tryd.f5.params[j]? = some t → args[j]? = some v → Value.okWide Tryd.prog W .any base t v := hval0
  have hW' := hW
  obtain ⟨p, q, hA0, hV, rfl, hfz, hnd⟩ := hW
  have hA : DataW.TrodAll enc Tryd.prog W 0 (fun _ => true) true Tryd.f5.params.toList args.toList ds p := hA0
  rw [Tryd.params5] at hA hval
  obtain ⟨v0, vs0, d0, ds0, p0, q0, hargs, rfl, rfl, h0, r0⟩ := trodAll_cons hA
  obtain ⟨rfl, rfl, rfl⟩ := trodAll_nil r0
  obtain rfl : args = #[v0] := by cases args; simp_all
  have hV2 : DataW.TrodVars enc Tryd.prog W (fun _ => true) ["loop.example/ringoverlay/impl.errArgs", "loop.example/ringoverlay/impl.errRefused"] gs q := hV
  obtain ⟨gA', gR', hgs⟩ : ∃ x y, gs = [x, y] := by obtain ⟨_, _, _, _, d0, _, _, _, _, _, d1, _, h, _⟩ := trodVars_two hV2; exact ⟨d0, d1, h⟩
  subst hgs
  obtain ⟨b0, b1, hS⟩ := sent_of hL
  obtain ⟨A0, len0, c0, rfl⟩ := okWide_slice Tryd.underlying22 (hval 0 22 v0 rfl rfl)
  have k0 := h0
  have lt0 : ∀ x ∈ p0, x.block < W.heap.size := by obtain ⟨m, hm⟩ := k0; exact DataW.trod_lt m _ _ _ hm
  obtain ⟨xs0, rfl, w0⟩ : ∃ xs : List Int, xs.length = len0 ∧ Arg .u8 W A0 c0 xs := by
    obtain ⟨fuel, hf⟩ := h0
    rcases open_ints Tryd.underlying22 Tryd.underlying5 (by kernel_rfl) hf with ⟨hcs, _⟩ | ⟨x, l, c, zs, hcs, _, hl, hm, hz, _, hcell, hwz⟩
    · simp [Value.cells] at hcs
      obtain ⟨rfl, rfl, rfl⟩ := hcs
      exact Arg.none_
    · simp [Value.cells] at hcs
      obtain ⟨rfl, rfl, rfl⟩ := hcs
      exact Arg.row hl hm (by simpa using hz) hcell hwz
  clear hA0 hval0
  refine (walk A0 c0 xs0 b0 b1 W w0 hS).mono fun e W' ⟨he, bel⟩ => ?_
  subst he
  exact ⟨_, rfl, _, _, _, [], _, q, hW', trodAll_mk1 (shut_bool Tryd.underlying4 _), (trodAll_cons_mk (Below.trod laidOut (by kernel_rfl) (of_decide_eq_true (by kernel_rfl)) k0 bel lt0) trodAll_mk0), bel.trodVars laidOut (by kernel_rfl) hV2, bel.frame _, fun h => by cases h⟩

theorem nm : Tryd.f5.name = Rows.fnTakeRangeRow.func := by kernel_rfl
theorem notMain : decide (Check.packageOf Rows.fnTakeRangeRow.func = "main") = false := by kernel_rfl
theorem noWrapper : Func.isWrapper Tryd.prog Tryd.f5 Rows.fnTakeRangeRow.wrapper Rows.fnTakeRangeRow.mainSum := by
  unfold Func.isWrapper; rw [nm, if_neg (of_decide_eq_false notMain)]; exact ⟨rfl, rfl⟩
theorem closed : joinedFacts Tryd.prog 5 Tryd.f5 Rows.fnTakeRangeSpec Rows.fnTakeRangeRow = true := by
  unfold joinedFacts
  exact (andI (andI (andI (andI (andI (andI (andI (andI (andI (andI (andI (andI (andI (andI (andI (andI (andI (andI (andI (andI (andI (andI (andI (andI (andI (andI (andI (andI (andI (andI (andI (by kernel_rfl) laidOut) rowed) (by kernel_rfl)) (by kernel_rfl)) (by kernel_rfl)) (by kernel_rfl)) (by kernel_rfl)) (by kernel_rfl)) (by kernel_rfl)) (by kernel_rfl)) (by kernel_rfl)) (by kernel_rfl)) (by kernel_rfl)) (by kernel_rfl)) (by kernel_rfl)) (by kernel_rfl)) (by kernel_rfl)) (by kernel_rfl)) (by kernel_rfl)) (by kernel_rfl)) (by kernel_rfl)) (by rw [plain_keys]; kernel_rfl)) (by kernel_rfl)) heard) mayEnter) (by rw [liftsFinal]; kernel_rfl)) (by rw [makeCut]; kernel_rfl)) (by kernel_rfl)) (by kernel_rfl)) (by kernel_rfl)) (by kernel_rfl))
theorem noInstance : decide (Func.isInstance Tryd.prog Tryd.f5 Rows.fnTakeRangeRow.origin Rows.fnTakeRangeRow.targs) = true := by kernel_rfl
theorem named : Tryd.prog.funcNamed Rows.fnTakeRangeRow.func = some 5 := by kernel_rfl
theorem over : Rows.fnTakeRangeRow.holds Tryd.pinned (OpenSpec.ofChange Rows.fnTakeRangeSpec) :=
  OpenClaim.holds_of_wide 5 Tryd.f5 rfl rfl rfl rfl rfl rfl rfl ⟨rfl, rfl, rfl, rfl, rfl⟩ rfl rfl rfl rfl rfl named Tryd.func5 closed
    (of_decide_eq_true noInstance) noWrapper
    (fun os started H enc _ => lifted os started H enc)

theorem looked : true = Tryd.pinned.checked.prog.looks [] := by kernel_rfl
/-- The statement. -/
theorem proved : Rows.FnTakeRangeCardSaid :=
  Claim7.holds_tied_plain_at .later [] [.sentinel, .sentinel] true (true, "001eeca1303be831eb74162102a44f1001d5e2a6b40793ab8a1b247fdb2dc515") true
    over (fun _ h => by cases h) (by kernel_rfl) (fun _ h => by cases h) fnTakeRange_row_tie rfl ⟨rfl, rfl⟩ (by kernel_rfl) rfl
    (fun f fn hf hfn => by
      obtain rfl : f = 5 := Option.some.inj (named.symm.trans hf) |>.symm
      obtain rfl : fn = Tryd.f5 := (Option.some.inj (Tryd.func5.symm.trans hfn)).symm
      exact ⟨looked, fun j t ht => by
        rw [Tryd.params5] at ht
        have hm : t ∈ [22] := by simpa using Array.mem_of_getElem? ht
        have hall : ([22].all fun u => !Tryd.prog.wantsStandIn u) = true := by kernel_rfl
        exact (show Tryd.prog.wantsStandIn t = false by simpa using List.all_eq_true.1 hall t hm)⟩)
    (by kernel_rfl)
#print axioms proved
end Go.Proofs.YtkjolmbcafonaaaDoor.FnTakeRange
