/- The law FnLatest: the latest replica is not older than others. Proved for every input, no condition: the law's Go function returns true, and each argument reads afterwards as it read before. -/
import Derived.Test.YtnfpgipbgillaaaSeat
import Derived.Test.YtnfpgipbgillaaaDrawR
import Derived.Test.YtnfpgipbgillaaaLatP
import Derived.WalkKit
import Derived.ProofKit
import Derived.OpenShut
import Derived.ShutString
import Derived.ChangeOld
import Derived.Below
namespace Go.Proofs.Ytnfpgipbgillaaa.FnLatest
open Go.ChangeShapes Go.WideShapes Go.ChangeAt Go.RowKit
open Go.ChangeMaps (open_string shut_string)
set_option linter.unusedVariables false
set_option maxHeartbeats 400000

set_option maxHeartbeats 4000000 in
theorem walk (A : Option Addr) (c : Nat) (xs : List Int) (w : World) (w0 : Arg .u8 w A c xs) : Calls Try.prog 6 #[.slice A xs.length c] w fun e w' => e = .returned (.bool true) ∧ Below w.heap.size w w' := by
  have HO := Lib.hid (drawRl_any A c xs w w0)
  obtain ⟨hl, hc, -, -⟩ := w0
  unfold maxLen at hc
  by_cases hbig : 1048576 < xs.length
  · go_enter Try.func6, Try.ntmps6
    go_wp2
    go_ret
    exact ⟨rfl, Below.refl _ _⟩
  have hsm : xs.length ≤ 1048576 := by omega
  clear hbig hl hc
  go_enter Try.func6, Try.ntmps6
  go_wp2_with fail
  refine HO.out.mono ?_; rintro e w1 ⟨A1, c1, ys, A2, c2, ss, rfl, ho, hi, hy10, hs11, hB⟩
  clear HO
  obtain ⟨hlc, hcm⟩ := ho.len
  have hcm9 := hi.len
  have HI := fun (W : World) (h : OwnT W w.heap.size A1 c1 ys) (h' : OwnI W w.heap.size A2 c2 ss) => Lib.hid (rl_impl W.heap.size A1 A2 c1 c2 ys ss hlc hcm (by omega) W (Nat.le_refl _) h.tris h'.nums)
  have HS := fun (W : World) (h : OwnT W w.heap.size A1 c1 ys) (h' : OwnI W w.heap.size A2 c2 ss) => Lib.hid (rl_spec W.heap.size A1 A2 c1 c2 ys ss hlc hcm (by omega) W (Nat.le_refl _) h.tris h'.nums)
  unfold RlRet at HI HS
  cases hok : rlOk ys ss
  · skip
    have h1 := HI w1 ho hi
    rw [hok] at h1 HS
    generalize rlVal ys ss = v at h1 HS
    go_wp2_with fail
    refine h1.out.mono ?_; rintro e w2 ⟨rfl, hb2⟩
    replace ho := (ho.below hb2 (Nat.le_refl _)).alloc (.cells #[.int .i64 v.1, .int .i64 v.2.1, .int .i64 v.2.2] 32 (0, 0))
    replace hi := (hi.below hb2 (Nat.le_refl _)).alloc (.cells #[.int .i64 v.1, .int .i64 v.2.1, .int .i64 v.2.2] 32 (0, 0))
    have hgb0 := (below_next hB hb2).size
    replace hB := (below_next hB hb2).alloc (below_next hB hb2).size (.cells #[.int .i64 v.1, .int .i64 v.2.1, .int .i64 v.2.2] 32 (0, 0))
    have HT := Lib.hid (alloc_top w2 (.cells #[.int .i64 v.1, .int .i64 v.2.1, .int .i64 v.2.2] 32 (0, 0)))
    have hlt2 : w2.heap.size < (w2.alloc (.cells #[.int .i64 v.1, .int .i64 v.2.1, .int .i64 v.2.2] 32 (0, 0))).heap.size := by simp
    clear h1 hb2 HI
    go_wp2_with fail
    generalize w2.alloc (.cells #[.int .i64 v.1, .int .i64 v.2.1, .int .i64 v.2.2] 32 (0, 0)) = W2 at hB HT hlt2 ho hi ⊢
    have h2 := HS W2 ho hi
    clear HS
    refine h2.out.mono ?_; rintro e w3 ⟨rfl, hb3⟩
    replace ho := (ho.below hb3 (Nat.le_refl _)).alloc (.cells #[.int .i64 v.1, .int .i64 v.2.1, .int .i64 v.2.2] 32 (0, 0))
    replace hi := (hi.below hb3 (Nat.le_refl _)).alloc (.cells #[.int .i64 v.1, .int .i64 v.2.1, .int .i64 v.2.2] 32 (0, 0))
    have hA3 : Below w3.heap.size w3 (w3.alloc (.cells #[.int .i64 v.1, .int .i64 v.2.1, .int .i64 v.2.2] 32 (0, 0))) := (Below.refl _ _).alloc (Nat.le_refl _) _
    have ht := (hA3.block _ (Nat.lt_of_lt_of_le hlt2 hb3.size)).trans ((hb3.block _ hlt2).trans HT.out)
    replace hB := below_next (below_next hB hb3) hA3
    obtain ⟨q1, q2, q3⟩ := cells3 ht
    have HQ := Lib.hid ht
    have HO1 := Lib.hid ho
    have HI1 := Lib.hid hi
    have hne : w2.heap.size < w3.heap.size := Nat.lt_of_lt_of_le hlt2 hb3.size
    clear h2 hb3 ht HT hA3 hlt2 ho hi
    obtain ⟨r1, r2, r3⟩ := cells3 (alloc_top w3 (.cells #[.int .i64 v.1, .int .i64 v.2.1, .int .i64 v.2.2] 32 (0, 0)))
    go_wp2
    go_ret
    exact ⟨rfl, hB⟩
  · obtain ⟨hrv, hmo⟩ := rl_yes hok
    have h0 := most_pos hmo
    have hset := most_set hmo
    have HV := Lib.hid (show (∃ (j : Nat) (s : Int), ss[j]? = some s ∧ rlVal ys ss = pickT ys s) ∧ ∀ (j : Nat) (s : Int), ss[j]? = some s → repOlder (rlVal ys ss).1 (rlVal ys ss).2.1 (pickT ys s).1 (pickT ys s).2.1 = false from by rw [rl_val hok]; exact ⟨lat_mem h0, fun j s h => lat_max h0 h⟩)
    have HPI := Lib.hid (fun (k : Nat) (s : Int) (h : ss[k]? = some s) => pick_at hset h)
    clear hrv hmo hset
    have h1 := HI w1 ho hi
    rw [hok] at h1 HS
    generalize rlVal ys ss = v at h1 HS HV
    go_wp2_with fail
    refine h1.out.mono ?_; rintro e w2 ⟨rfl, hb2⟩
    replace ho := (ho.below hb2 (Nat.le_refl _)).alloc (.cells #[.int .i64 v.1, .int .i64 v.2.1, .int .i64 v.2.2] 32 (0, 0))
    replace hi := (hi.below hb2 (Nat.le_refl _)).alloc (.cells #[.int .i64 v.1, .int .i64 v.2.1, .int .i64 v.2.2] 32 (0, 0))
    have hgb0 := (below_next hB hb2).size
    replace hB := (below_next hB hb2).alloc (below_next hB hb2).size (.cells #[.int .i64 v.1, .int .i64 v.2.1, .int .i64 v.2.2] 32 (0, 0))
    have HT := Lib.hid (alloc_top w2 (.cells #[.int .i64 v.1, .int .i64 v.2.1, .int .i64 v.2.2] 32 (0, 0)))
    have hlt2 : w2.heap.size < (w2.alloc (.cells #[.int .i64 v.1, .int .i64 v.2.1, .int .i64 v.2.2] 32 (0, 0))).heap.size := by simp
    clear h1 hb2
    go_wp2_with fail
    generalize w2.alloc (.cells #[.int .i64 v.1, .int .i64 v.2.1, .int .i64 v.2.2] 32 (0, 0)) = W2 at hB HT hlt2 ho hi ⊢
    have h2 := HS W2 ho hi
    clear HS
    refine h2.out.mono ?_; rintro e w3 ⟨rfl, hb3⟩
    replace ho := (ho.below hb3 (Nat.le_refl _)).alloc (.cells #[.int .i64 v.1, .int .i64 v.2.1, .int .i64 v.2.2] 32 (0, 0))
    replace hi := (hi.below hb3 (Nat.le_refl _)).alloc (.cells #[.int .i64 v.1, .int .i64 v.2.1, .int .i64 v.2.2] 32 (0, 0))
    have hA3 : Below w3.heap.size w3 (w3.alloc (.cells #[.int .i64 v.1, .int .i64 v.2.1, .int .i64 v.2.2] 32 (0, 0))) := (Below.refl _ _).alloc (Nat.le_refl _) _
    have ht := (hA3.block _ (Nat.lt_of_lt_of_le hlt2 hb3.size)).trans ((hb3.block _ hlt2).trans HT.out)
    replace hB := below_next (below_next hB hb3) hA3
    obtain ⟨q1, q2, q3⟩ := cells3 ht
    have HQ := Lib.hid ht
    have HO1 := Lib.hid ho
    have HI1 := Lib.hid hi
    have hne : w2.heap.size < w3.heap.size := Nat.lt_of_lt_of_le hlt2 hb3.size
    clear h2 hb3 ht HT hA3 hlt2 ho hi
    obtain ⟨r1, r2, r3⟩ := cells3 (alloc_top w3 (.cells #[.int .i64 v.1, .int .i64 v.2.1, .int .i64 v.2.2] 32 (0, 0)))
    clear r1 r2 r3 HI
    have hs0 : (ss.length : Int) ≤ 11 := by omega
    obtain ⟨ab, rfl⟩ := HI1.out.some_ h0
    go_wp2_with fail
    go_loopw [9, 10] (fun f i wr => ∃ (k : Nat) (b : Bool), k ≤ ss.length ∧ i = .int .i64 k ∧ f = .bool b ∧ (b = false → ∀ (j : Nat) (s : Int), j < k → ss[j]? = some s → v ≠ pickT ys s) ∧ wr.heap[w2.heap.size]? = some (.cells #[.int .i64 v.1, .int .i64 v.2.1, .int .i64 v.2.2] 32 (0, 0)) ∧ OwnT wr w.heap.size A1 c1 ys ∧ OwnI wr w.heap.size (some ⟨ab, 0, none⟩) c2 ss ∧ Below w.heap.size w wr) (fun _ i _ => ss.length - (intOf i).toNat)
    case atStart => exact ⟨0, false, Nat.zero_le _, rfl, rfl, fun _ j s hj => absurd hj (Nat.not_lt_zero _), HQ.out, HO1.out, HI1.out, hB⟩
    case round =>
      clear HQ HO1 HI1 hB q1 q2 q3
      obtain ⟨k, b, hk, rfl, rfl, hf, ht, ho, hi, hB⟩ := hrel
      by_cases hlt : k < ss.length
      · obtain ⟨s, hs⟩ : ∃ s, ss[k]? = some s := ⟨_, List.getElem?_eq_getElem hlt⟩
        obtain ⟨j, rfl, hj, hx⟩ := HPI.out k s hs
        have hmx := HV.out.2 k _ hs
        have d := hi.cells k _ hs
        rw [add_at, Nat.zero_add] at d
        obtain ⟨g, rfl⟩ := ho.some_ (by omega)
        obtain ⟨q1, q2, q3⟩ := ho.at_ hx
        obtain ⟨e1, e2, e3⟩ := cells3 ht
        have hjl : (j : Int) < (ys.length : Int) := by omega
        have HF := Lib.hid (show ∀ b' : Bool, (b' = false → b = false ∧ v ≠ pickT ys (j : Int)) → b' = false → ∀ (i : Nat) (s : Int), i < k + 1 → ss[i]? = some s → v ≠ pickT ys s from fun b' hb' hb0 i s hi' his => by
          by_cases hik : i = k
          · subst hik; rw [hs] at his; injection his with his; subst his; exact (hb' hb0).2
          · exact hf (hb' hb0).1 i s (by omega) his)
        generalize pickT ys (j : Int) = t at hx hmx q1 q2 q3 HF
        obtain ⟨t1, t2, t3⟩ := t
        obtain ⟨v1, v2, v3⟩ := v
        simp only at q1 q2 q3 e1 e2 e3 hmx
        have HX := Lib.hid hx
        have HT := Lib.hid ht
        have HO := Lib.hid ho
        have HI := Lib.hid hi
        have hlb : w2.heap.size < wr.heap.size := (Array.getElem?_eq_some_iff.1 ht).1
        clear hs hf ht ho hi hx
        have hB1 : Below w.heap.size w wr.drew := ⟨hB.os, hB.tape, hB.output, hB.size, hB.block⟩
        cases b
        · by_cases m1 : t1 = v1
          · by_cases m2 : t2 = v2
            · by_cases m3 : t3 = v3
              · subst m1 m2 m3
                go_wp2_with fail
                go_quiet (fail)
                go_wp2_with fail
                go_region_with (go_at_call 21; refine (lolder_any _ _ _ _ _ _ _).mono ?_; rw [hmx]; rintro e w5 ⟨rfl, hb5⟩)
                all_goals
                  have hb6 : Below wr.heap.size wr w5 := ⟨hb5.os, hb5.tape, hb5.output, hb5.size, hb5.block⟩
                  clear hb5
                  go_wp2_with fail
                  go_roundw
                  case rel => exact ⟨k + 1, true, by omega, by go_num, (by first | rfl | trivial), HF.out _ (fun h => by cases h), (hb6.block _ hlb).trans HT.out, HO.out.below hb6 (Nat.le_refl _), HI.out.below hb6 (Nat.le_refl _), below_next hB hb6⟩
                  case measure => simp [intOf]; omega
              · have m3b : (t3 == v3) = false := by rw [beq_eq_false_iff_ne]; exact m3
                subst m1 m2
                go_wp2_with fail
                go_quiet (fail)
                go_wp2_with fail
                go_region_with (go_at_call 21; refine (lolder_any _ _ _ _ _ _ _).mono ?_; rw [hmx]; rintro e w5 ⟨rfl, hb5⟩)
                all_goals
                  have hb6 : Below wr.heap.size wr w5 := ⟨hb5.os, hb5.tape, hb5.output, hb5.size, hb5.block⟩
                  clear hb5
                  go_wp2_with fail
                  go_roundw
                  case rel => exact ⟨k + 1, false, by omega, by go_num, (by first | rfl | trivial), HF.out _ (fun _ => ⟨by first | rfl | trivial, fun e => m3 (by injection e with _ e; injection e with _ e; exact e.symm)⟩), (hb6.block _ hlb).trans HT.out, HO.out.below hb6 (Nat.le_refl _), HI.out.below hb6 (Nat.le_refl _), below_next hB hb6⟩
                  case measure => simp [intOf]; omega
            · have m2b : (t2 == v2) = false := by rw [beq_eq_false_iff_ne]; exact m2
              subst m1
              go_wp2_with fail
              go_quiet (fail)
              go_wp2_with fail
              go_region_with (go_at_call 21; refine (lolder_any _ _ _ _ _ _ _).mono ?_; rw [hmx]; rintro e w5 ⟨rfl, hb5⟩)
              all_goals
                have hb6 : Below wr.heap.size wr w5 := ⟨hb5.os, hb5.tape, hb5.output, hb5.size, hb5.block⟩
                clear hb5
                go_wp2_with fail
                go_roundw
                case rel => exact ⟨k + 1, false, by omega, by go_num, (by first | rfl | trivial), HF.out _ (fun _ => ⟨by first | rfl | trivial, fun e => m2 (by injection e with _ e; injection e with e _; exact e.symm)⟩), (hb6.block _ hlb).trans HT.out, HO.out.below hb6 (Nat.le_refl _), HI.out.below hb6 (Nat.le_refl _), below_next hB hb6⟩
                case measure => simp [intOf]; omega
          · have m1b : (t1 == v1) = false := by rw [beq_eq_false_iff_ne]; exact m1
            go_wp2_with fail
            go_quiet (fail)
            go_wp2_with fail
            go_region_with (go_at_call 21; refine (lolder_any _ _ _ _ _ _ _).mono ?_; rw [hmx]; rintro e w5 ⟨rfl, hb5⟩)
            all_goals
              have hb6 : Below wr.heap.size wr w5 := ⟨hb5.os, hb5.tape, hb5.output, hb5.size, hb5.block⟩
              clear hb5
              go_wp2_with fail
              go_roundw
              case rel => exact ⟨k + 1, false, by omega, by go_num, (by first | rfl | trivial), HF.out _ (fun _ => ⟨by first | rfl | trivial, fun e => m1 (by injection e with e _; exact e.symm)⟩), (hb6.block _ hlb).trans HT.out, HO.out.below hb6 (Nat.le_refl _), HI.out.below hb6 (Nat.le_refl _), below_next hB hb6⟩
              case measure => simp [intOf]; omega
        · skip
          go_wp2_with fail
          go_quiet (fail)
          go_wp2_with fail
          go_region_with (go_at_call 21; refine (lolder_any _ _ _ _ _ _ _).mono ?_; rw [hmx]; rintro e w5 ⟨rfl, hb5⟩)
          all_goals
            have hb6 : Below wr.heap.size wr w5 := ⟨hb5.os, hb5.tape, hb5.output, hb5.size, hb5.block⟩
            clear hb5
            go_wp2_with fail
            go_roundw
            case rel => exact ⟨k + 1, true, by omega, by go_num, (by first | rfl | trivial), HF.out _ (fun h => by cases h), (hb6.block _ hlb).trans HT.out, HO.out.below hb6 (Nat.le_refl _), HI.out.below hb6 (Nat.le_refl _), below_next hB hb6⟩
            case measure => simp [intOf]; omega
      · cases b
        · exfalso
          obtain ⟨⟨j, s, h1, h2⟩, -⟩ := HV.out
          exact hf rfl j s (by have := (List.getElem?_eq_some_iff.1 h1).1; omega) h1 h2
        · go_wp2
          go_ret
          exact ⟨rfl, hB⟩

set_option maxRecDepth 100000 in
theorem lifted (os : Os) (started : os.Started) (H : Type) (enc : TypeId × Value → H) :
    ReturnsInHanded {} Try.checked os 6 .any (Rows.fnLatestSpec.pre6 enc Try.prog Try.f6 Rows.fnLatestRow.domain false) (Rows.fnLatestSpec.post enc Try.prog Try.f6 false true false false) := by
  refine returnsInHanded_of_change (C := Try.checked) own started (by kernel_rfl) Try.func6
    (ChangeSpec.witness6 (enc := enc) (C := Try.checked) false ⟨#[], #[.slice none 0 0], []⟩ 8 (by kernel_rfl) (by kernel_rfl) (by kernel_rfl) (by kernel_rfl)) ?_
  intro W base args ds gs before hval0 hW hcnd _
  have hval : ∀ (j : Nat) t v, Try.f6.params[j]? = some t → args[j]? = some v → Value.okWide Try.prog W .any base t v := hval0
  have hW' := hW
  obtain ⟨p, q, hA0, hV, rfl, hfz, hnd⟩ := hW
  have hA : DataW.TrodAll enc Try.prog W 0 (fun _ => true) true Try.f6.params.toList args.toList ds p := hA0
  rw [Try.params6] at hA hval
  obtain ⟨v0, vs0, d0, ds0, p0, q0, hargs, rfl, rfl, h0, r0⟩ := trodAll_cons hA
  obtain ⟨rfl, rfl, rfl⟩ := trodAll_nil r0
  obtain rfl : args = #[v0] := by cases args; simp_all
  obtain ⟨rfl, rfl⟩ := trodVars_none hV
  obtain ⟨A0, len0, c0, rfl⟩ := okWide_slice Try.underlying29 (hval 0 29 v0 rfl rfl)
  have k0 := h0
  have lt0 : ∀ x ∈ p0, x.block < W.heap.size := by obtain ⟨m, hm⟩ := k0; exact DataW.trod_lt m _ _ _ hm
  obtain ⟨xs0, rfl, w0⟩ : ∃ xs : List Int, xs.length = len0 ∧ Arg .u8 W A0 c0 xs := by
    obtain ⟨fuel, hf⟩ := h0
    rcases open_ints Try.underlying29 Try.underlying5 (by kernel_rfl) hf with ⟨hcs, _⟩ | ⟨x, l, c, zs, hcs, _, hl, hm, hz, _, hcell, hwz⟩
    · simp [Value.cells] at hcs
      obtain ⟨rfl, rfl, rfl⟩ := hcs
      exact Arg.none_
    · simp [Value.cells] at hcs
      obtain ⟨rfl, rfl, rfl⟩ := hcs
      exact Arg.row hl hm (by simpa using hz) hcell hwz
  clear hA0 hval0
  refine (walk A0 c0 xs0 W w0).mono fun e W' ⟨he, bel⟩ => ?_
  subst he
  exact ⟨_, rfl, _, _, _, [], _, [], hW', trodAll_mk1 (shut_bool Try.underlying4 _), (trodAll_cons_mk (Below.trod laidOut (by kernel_rfl) (of_decide_eq_true (by kernel_rfl)) k0 bel lt0) trodAll_mk0), rfl, bel.frame _, fun h => by cases h⟩

theorem nm : Try.f6.name = Rows.fnLatestRow.func := by kernel_rfl
theorem notMain : decide (Check.packageOf Rows.fnLatestRow.func = "main") = false := by kernel_rfl
theorem noWrapper : Func.isWrapper Try.prog Try.f6 Rows.fnLatestRow.wrapper Rows.fnLatestRow.mainSum := by
  unfold Func.isWrapper; rw [nm, if_neg (of_decide_eq_false notMain)]; exact ⟨rfl, rfl⟩
theorem closed : joinedFacts Try.prog 6 Try.f6 Rows.fnLatestSpec Rows.fnLatestRow = true := by
  unfold joinedFacts
  exact (andI (andI (andI (andI (andI (andI (andI (andI (andI (andI (andI (andI (andI (andI (andI (andI (andI (andI (andI (andI (andI (andI (andI (andI (andI (andI (andI (andI (andI (andI (andI (by kernel_rfl) laidOut) rowed) (by kernel_rfl)) (by kernel_rfl)) (by kernel_rfl)) (by kernel_rfl)) (by kernel_rfl)) (by kernel_rfl)) (by kernel_rfl)) (by kernel_rfl)) (by kernel_rfl)) (by kernel_rfl)) (by kernel_rfl)) (by kernel_rfl)) (by kernel_rfl)) (by kernel_rfl)) (by kernel_rfl)) (by kernel_rfl)) (by kernel_rfl)) (by kernel_rfl)) (by kernel_rfl)) (by rw [plain_keys]; kernel_rfl)) (by kernel_rfl)) heard) mayEnter) (by rw [liftsFinal]; kernel_rfl)) (by rw [makeCut]; kernel_rfl)) (by kernel_rfl)) (by kernel_rfl)) (by kernel_rfl)) (by kernel_rfl))
theorem noInstance : decide (Func.isInstance Try.prog Try.f6 Rows.fnLatestRow.origin Rows.fnLatestRow.targs) = true := by kernel_rfl
theorem named : Try.prog.funcNamed Rows.fnLatestRow.func = some 6 := by kernel_rfl
theorem over : Rows.fnLatestRow.holds Try.pinned (OpenSpec.ofChange Rows.fnLatestSpec) :=
  OpenClaim.holds_of_wide 6 Try.f6 rfl rfl rfl rfl rfl rfl rfl ⟨rfl, rfl, rfl, rfl, rfl⟩ rfl rfl rfl rfl rfl named Try.func6 closed
    (of_decide_eq_true noInstance) noWrapper
    (fun os started H enc _ => lifted os started H enc)

/-- The statement. -/
theorem proved : Rows.FnLatestSaid := over
#print axioms proved
end Go.Proofs.Ytnfpgipbgillaaa.FnLatest
