/- The law FnNodesJoin: a new node takes keys from one node only. Proved for every input, no condition: the law's Go function returns true, and each argument reads afterwards as it read before. -/
import Derived.Test.YtdkcppbafpjpgaaSeat
import Derived.Test.YtdkcppbafpjpgaaCirc
import Derived.Test.YtdkcppbafpjpgaaNext
import Derived.Test.YtdkcppbafpjpgaaInts
import Derived.Test.YtdkcppbafpjpgaaDraw4
import Derived.Test.YtdkcppbafpjpgaaApp
import Derived.Test.YtdkcppbafpjpgaaPlainM
import Derived.WalkKit
import Derived.ProofKit
import Derived.OpenShut
import Derived.ShutString
import Derived.ChangeOld
import Derived.Below
namespace Go.Proofs.Ytdkcppbafpjpgaa.FnNodesJoin
open Go.ChangeShapes Go.WideShapes Go.ChangeAt Go.RowKit
open Go.ChangeMaps (open_string shut_string)
set_option linter.unusedVariables false
set_option maxHeartbeats 400000

set_option maxHeartbeats 2000000 in
theorem walk (A : Option Addr) (c : Nat) (xs : List Int) (A' : Option Addr) (c' : Nat) (zs : List Int) (w : World) (w0 : Arg .u8 w A c xs) (w1 : Arg .u8 w A' c' zs) : Calls Try.prog 7 #[.slice A xs.length c, .slice A' zs.length c'] w fun e w' => e = .returned (.bool true) ∧ Below w.heap.size w w' := by
  have HO := Lib.hid (drawNext_any A c xs w w0)
  obtain ⟨hl, hc, -, -⟩ := w0
  obtain ⟨hl', hc', -, -⟩ := w1
  unfold maxLen at hc  hc'
  by_cases hbig : 1048576 < xs.length
  · go_enter Try.func7, Try.ntmps7
    go_wp2
    go_ret
    exact ⟨rfl, Below.refl _ _⟩
  by_cases hbig' : 1048576 < zs.length
  · have hsm : xs.length ≤ 1048576 := by omega
    go_enter Try.func7, Try.ntmps7
    go_wp2
    go_ret
    exact ⟨rfl, Below.refl _ _⟩
  have hsm : xs.length ≤ 1048576 := by omega
  have hsm' : zs.length ≤ 1048576 := by omega
  clear hbig hl hc hbig' hl' hc'
  go_enter Try.func7, Try.ntmps7
  go_wp2_with fail
  refine HO.out.mono ?_; rintro e w1 ⟨B, d, ys, key, rfl, ho, hy20, hyb, key0, key1, hB⟩
  clear HO
  obtain ⟨i0, hi, hz0, hz1, hz2⟩ := info_parts int_info
  have HI := Lib.hid hi
  have HZ0 := Lib.hid hz0
  have HZ1 := Lib.hid hz1
  have HZ2 := Lib.hid hz2
  clear hi hz0 hz1 hz2
  have hmax : ys.length ≤ maxLen := by unfold maxLen; omega
  have H1 := Lib.hid (nnext_impl w1.heap.size B d ys key hmax w1 ho.nums)
  have H2 := Lib.hid (nnext_spec w1.heap.size B d ys key hmax w1 ho.nums)
  go_wp2_with fail
  refine H1.out.mono ?_; rintro e w' ⟨rfl, rfl⟩
  go_wp2_with fail
  refine H2.out.mono ?_; rintro e w2 ⟨rfl, hb2⟩
  replace ho := ho.below hb2 (Nat.le_refl _)
  replace hB := below_next hB hb2
  clear hb2 H1 H2
  by_cases hv : nval ys = true ∧ pos key = true
  · obtain ⟨hv, hk⟩ := hv
    have hlen := nval_len hv
    obtain ⟨hl1, hl2⟩ := hlen
    have hnn : 0 ≤ nnext ys key := by
      rw [nnext_yes hv hk]; exact (pos_iff.1 (node_pos hv (nxt_mem hl1 key))).1
    by_cases h10 : ys.length = 10
    · have h10' : ((ys.length : Int) == 10) = true := by rw [beq_iff_eq]; omega
      clear hv hk h10
      go_wp2
      go_ret
      exact ⟨rfl, hB⟩
    have h10' : ((ys.length : Int) == 10) = false := by rw [beq_eq_false_iff_ne]; omega
    have hlt10 : ys.length < 10 := by omega
    have HV := Lib.hid hv
    clear hv hk h10
    obtain ⟨p, hp⟩ : ∃ p : Int, p = (zs.length : Int) % 64 := ⟨_, rfl⟩
    have hp0 : 0 ≤ p := by omega
    have hp1 : p < 64 := by omega
    have HP := Lib.hid (show (zs.length : Int) % 64 = p from hp.symm)
    clear hp
    have HH := fun (W : World) (n : Int) (hh : OwnI W w.heap.size B d ys) => Lib.hid (hasInt_any W.heap.size B d ys n hmax W hh.nums)
    cases hh : has ys p
    · have hpp := HP.out
      go_wp2_with (go_at_call 24; refine ((HH _ _ ho).out).mono ?_; rintro e w' ⟨rfl, rfl⟩)
      clear hpp hh
      have hE := OwnI.empty w2 (base := w2.heap.size) (Nat.le_refl _)
      go_loopw [10, 11] (fun v i wr => ∃ (k : Nat) (E : Option Addr) (f : Nat), k ≤ 64 ∧ i = .int .i64 k ∧ v = .slice E (allTo ys p k).length f ∧ OwnI wr w2.heap.size E f (allTo ys p k) ∧ Below w2.heap.size w2 wr) (fun _ i _ => 64 - (intOf i).toNat)
      case atStart => exact ⟨0, _, 0, Nat.zero_le _, rfl, rfl, hE, (Below.refl _ _).alloc (Nat.le_refl _) _⟩
      case round =>
        clear hE
        obtain ⟨k, E, f, hk, rfl, rfl, hoE, hb⟩ := hrel
        have hoW := ho.below hb (Nat.le_refl _)
        have hsz := hb.size
        by_cases hlt : k < 64
        · have HS := Lib.hid (allTo_succ ys p k)
          have hcnt := allTo_le ys p k
          by_cases hin : has ys (k : Int) = true ∨ ((k : Int) == p) = true
          · have HS' := Lib.hid (show allTo ys p (k + 1) = allTo ys p k ++ [(k : Int)] from by
              rw [HS.out, if_pos]; rw [Bool.or_eq_true]; exact hin)
            generalize allTo ys p k = al at *
            have hgo : Calls Try.prog 24 #[.slice B ys.length d, .int .i64 (k : Int)] wr fun e w' => e = .returned (.bool (has ys (k : Int))) ∧ wr = w' := (HH wr (k : Int) hoW).out
            have HG := Lib.hid hgo
            clear hgo HS
            rcases (show has ys (k : Int) = true ∨ (has ys (k : Int) = false ∧ ((k : Int) == p) = true) from by
              cases hc : has ys (k : Int)
              · exact .inr ⟨rfl, hin.resolve_left (by rw [hc]; simp)⟩
              · exact .inl rfl) with hc | ⟨hc, hc'⟩
            all_goals
              clear hin
              go_wp2_with (first
                | (go_at_call 24; refine (HG.out).mono ?_; rintro e w' ⟨rfl, rfl⟩)
                | (at_builtin
                   refine list_app rfl Try.underlying30 HI.out HZ0.out HZ1.out HZ2.out (.tmp 67) (.tmp 69) rfl (base := w2.heap.size) (xs := al) (ys := [(k : Int)]) rfl rfl (OwnI.alloc hoE _) rfl (SrcI.one _ _) ?_ ?_ ?_
                   · simp; omega
                   · simp; omega
                   intro E2 f2 w4 ho4 hg4 hat4
                   have hb4 : Below w2.heap.size w2 w4 := Below.grown (hb.alloc hsz _) hg4 (by simp; omega) hoE.row
                   rw [← HS'.out] at ho4 ⊢
                   clear hat4))
              go_roundw
              case rel => exact ⟨k + 1, E2, f2, by omega, by go_num, rfl, ho4, hb4⟩
              case measure => simp [intOf]; omega
          · have hc : has ys (k : Int) = false := by rw [Bool.eq_false_iff]; exact fun h => hin (.inl h)
            have hc' : ((k : Int) == p) = false := by rw [Bool.eq_false_iff]; exact fun h => hin (.inr h)
            have HS' := Lib.hid (show allTo ys p (k + 1) = allTo ys p k from by
              rw [HS.out, if_neg (by rw [Bool.or_eq_true]; exact hin), List.append_nil])
            clear hin HS
            go_wp2_with (go_at_call 24; refine ((HH _ _ hoW).out).mono ?_; rintro e w' ⟨rfl, rfl⟩)
            go_roundw
            case rel => exact ⟨k + 1, E, f, by omega, by go_num, by rw [HS'.out], by rw [HS'.out]; exact hoE, hb⟩
            case measure => simp [intOf]; omega
        · have hk64 : k = 64 := by omega
          subst hk64
          rw [show ((64 : Nat) : Int) = 64 from rfl]
          have hcnt := allTo_le ys p 64
          have hmaxE : (allTo ys p 64).length ≤ maxLen := by unfold maxLen; omega
          have HJ := fun (q : Int) (h0 : 0 ≤ q) (h1 : q < 64) => Lib.hid (join_law HV.out (pos_iff.2 ⟨hp0, hp1⟩) (pos_iff.2 ⟨h0, h1⟩) hlt10)
          have HNE := fun (q : Int) => Lib.hid (nnext_impl wr.heap.size E f (allTo ys p 64) q hmaxE wr hoE.nums)
          have HNY := fun (q : Int) => Lib.hid (nnext_impl wr.heap.size B d ys q hmax wr hoW.nums)
          have hBr := hB.trans (hb.mono hB.size)
          generalize allTo ys p 64 = al at *
          clear hoE hoW hb hsz ho HH hB hcnt hmaxE hk hlt
          go_wp2
          go_loop [12] (fun i => ∃ k : Nat, k ≤ 64 ∧ i = .int .i64 k) (fun i => 64 - (intOf i).toNat)
          case atStart => exact ⟨0, Nat.zero_le _, rfl⟩
          case round =>
            obtain ⟨k, hk, rfl⟩ := hrel
            by_cases hlt : k < 64
            · have hj := HJ (k : Int) (by omega) (by omega)
              clear HJ
              by_cases hne : nnext al (k : Int) = nnext ys (k : Int)
              · have hne' : (nnext al (k : Int) != nnext ys (k : Int)) = false := by simpa using hne
                clear hne
                go_wp2_with fail
                refine ((HNE _).out).mono ?_; rintro e w' ⟨rfl, rfl⟩
                go_wp2_with fail
                refine ((HNY _).out).mono ?_; rintro e w' ⟨rfl, rfl⟩
                go_wp2
                go_round
                case rel => first | exact ⟨k + 1, by omega, by go_num⟩ | exact ⟨trivial, k + 1, by omega, by go_num⟩
                case measure => simp [intOf]; omega
              · have hne' : (nnext al (k : Int) != nnext ys (k : Int)) = true := by simpa using hne
                obtain ⟨j1, j2⟩ := hj.out hne
                have j1' : (nnext al (k : Int) != p) = false := by simpa using j1
                have j2' : (nnext ys (k : Int) != nnext ys p) = false := by simpa using j2
                clear hne j1 j2 hj
                go_wp2_with fail
                refine ((HNE _).out).mono ?_; rintro e w' ⟨rfl, rfl⟩
                go_wp2_with fail
                refine ((HNY _).out).mono ?_; rintro e w' ⟨rfl, rfl⟩
                go_wp2_with fail
                refine ((HNY _).out).mono ?_; rintro e w' ⟨rfl, rfl⟩
                go_wp2_with fail
                refine ((HNY _).out).mono ?_; rintro e w' ⟨rfl, rfl⟩
                go_wp2
                go_round
                case rel => first | exact ⟨k + 1, by omega, by go_num⟩ | exact ⟨trivial, k + 1, by omega, by go_num⟩
                case measure => simp [intOf]; omega
            · go_wp2
              go_ret
              exact ⟨rfl, hBr⟩
    · have hpp := HP.out
      go_wp2_with (go_at_call 24; refine ((HH _ _ ho).out).mono ?_; rintro e w' ⟨rfl, rfl⟩)
      go_ret
      exact ⟨rfl, hB⟩
  · have hneg : nnext ys key < 0 := by rw [nnext_no hv]; omega
    clear hv
    go_wp2
    go_ret
    exact ⟨rfl, hB⟩

set_option maxRecDepth 100000 in
theorem lifted (os : Os) (started : os.Started) (H : Type) (enc : TypeId × Value → H) :
    ReturnsInHanded {} Try.checked os 7 .any (Rows.fnNodesJoinSpec.pre6 enc Try.prog Try.f7 Rows.fnNodesJoinRow.domain false) (Rows.fnNodesJoinSpec.post enc Try.prog Try.f7 false true false false) := by
  refine returnsInHanded_of_change (C := Try.checked) own started (by kernel_rfl) Try.func7
    (ChangeSpec.witness6 (enc := enc) (C := Try.checked) false ⟨#[], #[.slice none 0 0, .slice none 0 0], []⟩ 8 (by kernel_rfl) (by kernel_rfl) (by kernel_rfl) (by kernel_rfl)) ?_
  intro W base args ds gs before hval0 hW hcnd _
  have hval : ∀ (j : Nat) t v, Try.f7.params[j]? = some t → args[j]? = some v → Value.okWide Try.prog W .any base t v := hval0
  have hW' := hW
  obtain ⟨p, q, hA0, hV, rfl, hfz, hnd⟩ := hW
  have hA : DataW.TrodAll enc Try.prog W 0 (fun _ => true) true Try.f7.params.toList args.toList ds p := hA0
  rw [Try.params7] at hA hval
  obtain ⟨v0, vs0, d0, ds0, p0, q0, hargs, rfl, rfl, h0, r0⟩ := trodAll_cons hA
  obtain ⟨v1, vs1, d1, ds1, p1, q1, rfl, rfl, rfl, h1, r1⟩ := trodAll_cons r0
  obtain ⟨rfl, rfl, rfl⟩ := trodAll_nil r1
  obtain rfl : args = #[v0, v1] := by cases args; simp_all
  obtain ⟨rfl, rfl⟩ := trodVars_none hV
  obtain ⟨A0, len0, c0, rfl⟩ := okWide_slice Try.underlying22 (hval 0 22 v0 rfl rfl)
  have k0 := h0
  have lt0 : ∀ x ∈ p0, x.block < W.heap.size := by obtain ⟨m, hm⟩ := k0; exact DataW.trod_lt m _ _ _ hm
  obtain ⟨xs0, rfl, w0⟩ : ∃ xs : List Int, xs.length = len0 ∧ Arg .u8 W A0 c0 xs := by
    obtain ⟨fuel, hf⟩ := h0
    rcases open_ints Try.underlying22 Try.underlying5 (by kernel_rfl) hf with ⟨hcs, _⟩ | ⟨x, l, c, zs, hcs, _, hl, hm, hz, _, hcell, hwz⟩
    · simp [Value.cells] at hcs
      obtain ⟨rfl, rfl, rfl⟩ := hcs
      exact Arg.none_
    · simp [Value.cells] at hcs
      obtain ⟨rfl, rfl, rfl⟩ := hcs
      exact Arg.row hl hm (by simpa using hz) hcell hwz
  obtain ⟨A1, len1, c1, rfl⟩ := okWide_slice Try.underlying22 (hval 1 22 v1 rfl rfl)
  have k1 := h1
  have lt1 : ∀ x ∈ p1, x.block < W.heap.size := by obtain ⟨m, hm⟩ := k1; exact DataW.trod_lt m _ _ _ hm
  obtain ⟨xs1, rfl, w1⟩ : ∃ xs : List Int, xs.length = len1 ∧ Arg .u8 W A1 c1 xs := by
    obtain ⟨fuel, hf⟩ := h1
    rcases open_ints Try.underlying22 Try.underlying5 (by kernel_rfl) hf with ⟨hcs, _⟩ | ⟨x, l, c, zs, hcs, _, hl, hm, hz, _, hcell, hwz⟩
    · simp [Value.cells] at hcs
      obtain ⟨rfl, rfl, rfl⟩ := hcs
      exact Arg.none_
    · simp [Value.cells] at hcs
      obtain ⟨rfl, rfl, rfl⟩ := hcs
      exact Arg.row hl hm (by simpa using hz) hcell hwz
  clear hA0 hval0
  refine (walk A0 c0 xs0 A1 c1 xs1 W w0 w1).mono fun e W' ⟨he, bel⟩ => ?_
  subst he
  exact ⟨_, rfl, _, _, _, [], _, [], hW', trodAll_mk1 (shut_bool Try.underlying4 _), (trodAll_cons_mk (Below.trod laidOut (by kernel_rfl) (of_decide_eq_true (by kernel_rfl)) k0 bel lt0) (trodAll_cons_mk (Below.trod laidOut (by kernel_rfl) (of_decide_eq_true (by kernel_rfl)) k1 bel lt1) trodAll_mk0)), rfl, bel.frame _, fun h => by cases h⟩

theorem nm : Try.f7.name = Rows.fnNodesJoinRow.func := by kernel_rfl
theorem notMain : decide (Check.packageOf Rows.fnNodesJoinRow.func = "main") = false := by kernel_rfl
theorem noWrapper : Func.isWrapper Try.prog Try.f7 Rows.fnNodesJoinRow.wrapper Rows.fnNodesJoinRow.mainSum := by
  unfold Func.isWrapper; rw [nm, if_neg (of_decide_eq_false notMain)]; exact ⟨rfl, rfl⟩
theorem closed : joinedFacts Try.prog 7 Try.f7 Rows.fnNodesJoinSpec Rows.fnNodesJoinRow = true := by
  unfold joinedFacts
  exact (andI (andI (andI (andI (andI (andI (andI (andI (andI (andI (andI (andI (andI (andI (andI (andI (andI (andI (andI (andI (andI (andI (andI (andI (andI (andI (andI (andI (andI (andI (andI (by kernel_rfl) laidOut) rowed) (by kernel_rfl)) (by kernel_rfl)) (by kernel_rfl)) (by kernel_rfl)) (by kernel_rfl)) (by kernel_rfl)) (by kernel_rfl)) (by kernel_rfl)) (by kernel_rfl)) (by kernel_rfl)) (by kernel_rfl)) (by kernel_rfl)) (by kernel_rfl)) (by kernel_rfl)) (by kernel_rfl)) (by kernel_rfl)) (by kernel_rfl)) (by kernel_rfl)) (by kernel_rfl)) (by rw [plain_keys]; kernel_rfl)) (by kernel_rfl)) heard) mayEnter) (by rw [liftsFinal]; kernel_rfl)) (by rw [makeCut]; kernel_rfl)) (by kernel_rfl)) (by kernel_rfl)) (by kernel_rfl)) (by kernel_rfl))
theorem noInstance : decide (Func.isInstance Try.prog Try.f7 Rows.fnNodesJoinRow.origin Rows.fnNodesJoinRow.targs) = true := by kernel_rfl
theorem named : Try.prog.funcNamed Rows.fnNodesJoinRow.func = some 7 := by kernel_rfl
theorem over : Rows.fnNodesJoinRow.holds Try.pinned (OpenSpec.ofChange Rows.fnNodesJoinSpec) :=
  OpenClaim.holds_of_wide 7 Try.f7 rfl rfl rfl rfl rfl rfl rfl ⟨rfl, rfl, rfl, rfl, rfl⟩ rfl rfl rfl rfl rfl named Try.func7 closed
    (of_decide_eq_true noInstance) noWrapper
    (fun os started H enc _ => lifted os started H enc)

/-- The statement. -/
theorem proved : Rows.FnNodesJoinSaid := over
#print axioms proved
end Go.Proofs.Ytdkcppbafpjpgaa.FnNodesJoin
