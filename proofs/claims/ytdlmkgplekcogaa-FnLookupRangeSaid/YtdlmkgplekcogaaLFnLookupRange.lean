/- The law FnLookupRange: a range is held by the listed nodes, and by no others, each listed once. Proved for every input, no condition: the law's Go function returns true, and each argument reads afterwards as it read before. -/
import Derived.Test.YtdlmkgplekcogaaSeat
import Derived.Test.YtdlmkgplekcogaaRng
import Derived.Test.YtdlmkgplekcogaaSame
import Derived.Test.YtdlmkgplekcogaaDraw5
import Derived.Test.YtdlmkgplekcogaaLnx
import Derived.WalkKit
import Derived.ProofKit
import Derived.OpenShut
import Derived.ShutString
import Derived.ChangeOld
import Derived.Below
namespace Go.Proofs.Ytdlmkgplekcogaa.FnLookupRange
open Go.ChangeShapes Go.WideShapes Go.ChangeAt Go.RowKit
open Go.ChangeMaps (open_string shut_string)
set_option linter.unusedVariables false
set_option maxHeartbeats 400000

theorem rngD_yes {xs : List Int} {a b : Int} (h : nval xs = true ∧ pos a = true ∧ pos b = true) : lrng xs a b = rngTo xs a (dst a b + 1).toNat := by
  unfold lrng; rw [if_pos h]
theorem rngD_no {xs : List Int} {a b : Int} (h : ¬ (nval xs = true ∧ pos a = true ∧ pos b = true)) : lrng xs a b = [] := lrng_no h
theorem any_succ (f : Nat → Bool) (k : Nat) : (List.range (k + 1)).any f = ((List.range k).any f || f k) := by rw [List.range_succ, List.any_append]; simp
theorem nums_take {w : World} {B : Nat} {A : Option Addr} {xs : List Int} (h : NumsAt .i64 w B A xs) (j : Nat) : NumsAt .i64 w B A (xs.take j) := by
  intro k hk
  rw [List.length_take] at hk
  obtain ⟨ad, x, e, hb, hx, hc⟩ := h k (by omega)
  exact ⟨ad, x, e, hb, by rw [List.getElem?_take, if_pos (by omega)]; exact hx, hc⟩
theorem take_new {vs : List Int} (h : vs.Nodup) {j : Nat} {x : Int} (hx : vs[j]? = some x) : has (vs.take j) x = false := by
  rw [Bool.eq_false_iff]
  intro hc
  rw [has_iff] at hc
  obtain ⟨hj, rfl⟩ := List.getElem?_eq_some_iff.1 hx
  obtain ⟨i, hi, e⟩ := List.getElem_of_mem hc
  rw [List.getElem_take] at e
  simp only [List.length_take] at hi
  have := (List.getElem_inj h).1 e
  omega
set_option maxHeartbeats 4000000 in
theorem walk (A : Option Addr) (c : Nat) (xs : List Int) (w : World) (w0 : Arg .u8 w A c xs) : Calls Try.prog 9 #[.slice A xs.length c] w fun e w' => e = .returned (.bool true) ∧ Below w.heap.size w w' := by
  have HO := Lib.hid (drawRng_any A c xs w w0)
  obtain ⟨hl, hc, -, -⟩ := w0
  unfold maxLen at hc
  by_cases hbig : 1048576 < xs.length
  · go_enter Try.func9, Try.ntmps9
    go_wp2
    go_ret
    exact ⟨rfl, Below.refl _ _⟩
  have hsm : xs.length ≤ 1048576 := by omega
  clear hbig hl hc
  go_enter Try.func9, Try.ntmps9
  go_wp2_with fail
  refine HO.out.mono ?_; rintro e w1 ⟨A1, c1, ys, a, b, rfl, ho, hy20, hyb, ⟨a0, a1⟩, ⟨b0, b1⟩, hB⟩
  clear HO
  have hmax : ys.length ≤ maxLen := by unfold maxLen; omega
  have H1 := Lib.hid (lrng_impl w1.heap.size A1 c1 ys a b hmax w1 (Nat.le_refl _) ho.nums)
  go_wp2_with fail
  refine H1.out.mono ?_; rintro e w2 ⟨A2, c2, rfl, ho2, hb2⟩
  replace ho := ho.below hb2 (Nat.le_refl _)
  replace ho2 := ho2.base hB.size
  replace hB := below_next hB hb2
  clear H1 hb2
  have H2 := Lib.hid (lrng_spec w2.heap.size A1 c1 ys a b hmax w2 (Nat.le_refl _) ho.nums)
  go_wp2_with fail
  refine H2.out.mono ?_; rintro e w3 ⟨A3, c3, rfl, ho3, hb3⟩
  replace ho := ho.below hb3 (Nat.le_refl _)
  replace ho2 := ho2.below hb3 (Nat.le_refl _)
  replace ho3 := ho3.base hB.size
  replace hB := below_next hB hb3
  clear H2 hb3
  have hvl := lrng_le ys a b
  have hvm : (lrng ys a b).length ≤ maxLen := by unfold maxLen; omega
  have HQ := fun (W : World) (h2 : OwnI W w.heap.size A2 c2 (lrng ys a b)) (h3 : OwnI W w.heap.size A3 c3 (lrng ys a b)) => Lib.hid (same_self W.heap.size A2 A3 c2 c3 _ hvm W h2.nums h3.nums)
  by_cases hv : nval ys = true ∧ pos a = true ∧ pos b = true
  · have HV := Lib.hid (rngD_yes hv)
    generalize hvs : lrng ys a b = vs at HV HQ ho2 ho3 hvl hvm
    have HVS := Lib.hid hvs
    clear hvs
    go_wp2_with fail
    refine (HQ w3 ho2 ho3).out.mono ?_
    rintro e w4 ⟨rfl, hb4⟩
    replace ho := ho.below hb4 (Nat.le_refl _)
    replace ho2 := ho2.below hb4 (Nat.le_refl _)
    replace hB := below_next hB hb4
    clear ho3 HQ hb4
    obtain ⟨hnv, hpa, hpb⟩ := hv
    obtain ⟨a00, a01⟩ := pos_iff.1 hpa
    have hdb := dst_bd a b
    obtain ⟨D, hD⟩ := Int.eq_ofNat_of_zero_le hdb.1
    have hD63 : D < 64 := by omega
    have HD := Lib.hid (show cdist a b = (D : Int) from by rw [cdist_yes' ⟨hpa, hpb⟩]; exact hD)
    have hm : vs = rngTo ys a (D + 1) := by rw [HV.out, hD]; rfl
    have HMem := fun (x : Int) => Lib.hid (show x ∈ vs ↔ ∃ s, s < D + 1 ∧ hold ys a s = x from by rw [hm]; exact rng_mem x (D + 1))
    have HNd := Lib.hid (show vs.Nodup from by rw [hm]; exact rng_nodup ys a (D + 1))
    have HHD := Lib.hid (show vs[0]? = some (hold ys a 0) from by rw [hm]; exact rng_head D)
    have hvl1 : 1 ≤ vs.length := (List.getElem?_eq_some_iff.1 HHD.out).1
    have HK := fun (k : Nat) => Lib.hid (hold_nnext hnv a k)
    have hvm2 : vs.length ≤ maxLen := hvm
    clear hnv hpa hpb HVS HV hvm hD hdb hm HHD
    obtain ⟨g, rfl⟩ := ho2.some_ (by omega)
    have HN := fun (W : World) (h : OwnI W w.heap.size A1 c1 ys) (k : Nat) => Lib.hid (show Calls Try.prog 21 #[.slice A1 ys.length c1, .int .i64 ((a + (k : Int)) % 64)] W (fun e w' => e = .returned (.int .i64 (hold ys a k)) ∧ w' = W) from by
      have := nnext_left W.heap.size A1 c1 ys ((a + (k : Int)) % 64) hmax W h.nums
      rwa [(HK k).out] at this)
    have HH := fun (W : World) (h : OwnI W w.heap.size (some ⟨g, 0, none⟩) c2 vs) (x : Int) => Lib.hid (hasInt_any W.heap.size _ c2 vs x hvm2 W h.nums)
    go_wp2_with (go_at_call 26; refine (cd_impl a b _).mono ?_; rw [HD.out]; rintro e w5 ⟨rfl, hb5⟩)
    replace ho := ho.below hb5 (Nat.le_refl _)
    replace ho2 := ho2.below hb5 (Nat.le_refl _)
    replace hB := below_next hB hb5
    clear hb5
    go_loopw [9] (fun i wr => ∃ k : Nat, k ≤ D + 1 ∧ i = .int .i64 k ∧ OwnI wr w.heap.size A1 c1 ys ∧ OwnI wr w.heap.size (some ⟨g, 0, none⟩) c2 vs ∧ Below w.heap.size w wr) (fun i _ => D + 1 - (intOf i).toNat)
    case atStart => exact ⟨0, Nat.zero_le _, rfl, ho, ho2, hB⟩
    case round =>
      clear ho ho2 hB
      obtain ⟨k, hk, rfl, ho, ho2, hB⟩ := hrel
      by_cases hlt : k ≤ D
      · have hin : has vs (hold ys a k) = true := (has_iff _ _).2 ((HMem _).out.2 ⟨k, by omega, rfl⟩)
        have HN1 := HN wr ho k
        have HH1 := HH wr ho2 (hold ys a k)
        generalize hold ys a k = x at hin HN1 HH1
        go_wp2_with (first
          | (go_at_call 21; refine (HN1.out).mono ?_; rintro e w' ⟨rfl, rfl⟩)
          | (go_at_call 27; refine (HH1.out).mono ?_; rw [hin]; rintro e w' ⟨rfl, rfl⟩))
        go_roundw
        case rel => exact ⟨k + 1, by omega, by go_num, ho, ho2, hB⟩
        case measure => simp [intOf]; omega
      · have hlt' : (D : Int) < (k : Int) := by omega
        clear hlt
        go_wp2_with fail
        go_loopw [10] (fun i wr => ∃ k : Nat, k ≤ vs.length ∧ i = .int .i64 k ∧ OwnI wr w.heap.size A1 c1 ys ∧ OwnI wr w.heap.size (some ⟨g, 0, none⟩) c2 vs ∧ Below w.heap.size w wr) (fun i _ => vs.length - (intOf i).toNat)
        case atStart => exact ⟨0, Nat.zero_le _, rfl, ho, ho2, hB⟩
        case round =>
          clear ho ho2 hB hlt' hk
          rename World => wr2
          obtain ⟨j, hj, rfl, ho, ho2, hB⟩ := hrel
          by_cases hlt : j < vs.length
          · obtain ⟨x, hx⟩ : ∃ x, vs[j]? = some x := ⟨_, List.getElem?_eq_getElem hlt⟩
            have HD2 := fun (W : World) (hh : OwnI W w.heap.size (some ⟨g, 0, none⟩) c2 vs) => own_at hh hx
            have HAny := Lib.hid (show (List.range (D + 1)).any (fun s => hold ys a s == x) = true from by
              rw [List.any_eq_true]
              obtain ⟨s, s1, s2⟩ := (HMem x).out.1 (List.mem_of_getElem? hx)
              exact ⟨s, by simpa using s1, by simpa using s2⟩)
            have HNo := Lib.hid (take_new HNd.out hx)
            clear hx
            go_wp2_with fail
            go_loopw [11, 12] (fun f i wr => ∃ k : Nat, k ≤ D + 1 ∧ i = .int .i64 k ∧ f = .bool ((List.range k).any (fun s => hold ys a s == x)) ∧ OwnI wr w.heap.size A1 c1 ys ∧ OwnI wr w.heap.size (some ⟨g, 0, none⟩) c2 vs ∧ Below w.heap.size w wr) (fun _ i _ => D + 1 - (intOf i).toNat)
            case atStart => exact ⟨0, Nat.zero_le _, rfl, rfl, ho, ho2, hB⟩
            case round =>
              clear ho ho2 hB
              rename World => wr3
              obtain ⟨k, hk, rfl, rfl, ho, ho2, hB⟩ := hrel
              have d := HD2 wr3 ho2
              by_cases hlt2 : k ≤ D
              · have HS := Lib.hid (any_succ (fun s => hold ys a s == x) k)
                have hn := fun n => HN (wr3.drewN n) (ho.drewN n) k
                generalize hold ys a k = q at HS hn
                cases hany : (List.range k).any (fun s => hold ys a s == x)
                · rw [hany] at HS
                  by_cases hqx : q = x
                  · subst hqx
                    go_wp2_with fail
                    go_quiet ((go_at_call 21; exact Calls.quiet_of_same ((hn _).out)))
                    go_wp2_with fail
                    refine ⟨⟨k + 1, by omega, by go_num, by rw [HS.out]; simp, ho.drewN _, ho2.drewN _, below_next hB (below_draw ⟨_, rfl⟩)⟩, ?_⟩
                    simp only [intOf]; omega
                  · have hqx' : (q == x) = false := by simpa using hqx
                    go_wp2_with fail
                    go_quiet ((go_at_call 21; exact Calls.quiet_of_same ((hn _).out)))
                    go_wp2_with fail
                    refine ⟨⟨k + 1, by omega, by go_num, by rw [HS.out, hqx']; simp, ho.drewN _, ho2.drewN _, below_next hB (below_draw ⟨_, rfl⟩)⟩, ?_⟩
                    simp only [intOf]; omega
                · rw [hany] at HS
                  go_wp2_with fail
                  go_quiet ((go_at_call 21; exact Calls.quiet_of_same ((hn _).out)))
                  go_wp2_with fail
                  refine ⟨⟨k + 1, by omega, by go_num, by rw [HS.out]; simp, ho.drewN _, ho2.drewN _, below_next hB (below_draw ⟨_, rfl⟩)⟩, ?_⟩
                  simp only [intOf]; omega
              · have hke : k = D + 1 := by omega
                subst hke
                rw [HAny.out]
                have hh := fun n => Lib.hid (show Calls Try.prog 27 #[.slice (some ⟨g, 0, none⟩) j c2, .int .i64 x] (wr3.drewN n) (fun e w' => e = .returned (.bool false) ∧ w' = wr3.drewN n) from by
                  have := hasInt_any wr3.heap.size (some ⟨g, 0, none⟩) c2 (vs.take j) x (by simp; omega) (wr3.drewN n) ((nums_take (NumsAt.drewN ho2.nums n) j))
                  rw [HNo.out, List.length_take, Nat.min_eq_left (by omega)] at this
                  exact this.mono fun _ _ ⟨h, k⟩ => ⟨h, k.symm⟩)
                have hcap : j ≤ c2 := by have := ho2.len; omega
                go_wp2_with fail
                go_quiet ((go_at_call 27; exact Calls.quiet_of_same ((hh _).out)))
                go_wp2_with fail
                refine ⟨⟨j + 1, by omega, by go_num, ho.drewN _, ho2.drewN _, below_next hB (below_draw ⟨_, rfl⟩)⟩, ?_⟩
                simp only [intOf]; omega
          · go_wp2
            go_ret
            exact ⟨rfl, hB⟩
  · have HV := rngD_no hv
    rw [HV] at HQ ho2 ho3 ⊢
    clear HV hv hvl hvm
    go_wp2_with fail
    refine (HQ w3 ho2 ho3).out.mono ?_
    rintro e w4 ⟨rfl, hb4⟩
    have HB4 := below_next hB hb4
    go_wp2_with fail
    refine (HQ w4 (ho2.below hb4 (Nat.le_refl _)) (ho3.below hb4 (Nat.le_refl _))).out.mono ?_
    rintro e w5 ⟨rfl, hb5⟩
    go_wp2
    go_ret
    exact ⟨rfl, below_next HB4 hb5⟩

set_option maxRecDepth 100000 in
theorem lifted (os : Os) (started : os.Started) (H : Type) (enc : TypeId × Value → H) :
    ReturnsInHanded {} Try.checked os 9 .any (Rows.fnLookupRangeSpec.pre6 enc Try.prog Try.f9 Rows.fnLookupRangeRow.domain false) (Rows.fnLookupRangeSpec.post enc Try.prog Try.f9 false true false false) := by
  refine returnsInHanded_of_change (C := Try.checked) own started (by kernel_rfl) Try.func9
    (ChangeSpec.witness6 (enc := enc) (C := Try.checked) false ⟨#[], #[.slice none 0 0], []⟩ 8 (by kernel_rfl) (by kernel_rfl) (by kernel_rfl) (by kernel_rfl)) ?_
  intro W base args ds gs before hval0 hW hcnd _
  have hval : ∀ (j : Nat) t v, Try.f9.params[j]? = some t → args[j]? = some v → Value.okWide Try.prog W .any base t v := hval0
  have hW' := hW
  obtain ⟨p, q, hA0, hV, rfl, hfz, hnd⟩ := hW
  have hA : DataW.TrodAll enc Try.prog W 0 (fun _ => true) true Try.f9.params.toList args.toList ds p := hA0
  rw [Try.params9] at hA hval
  obtain ⟨v0, vs0, d0, ds0, p0, q0, hargs, rfl, rfl, h0, r0⟩ := trodAll_cons hA
  obtain ⟨rfl, rfl, rfl⟩ := trodAll_nil r0
  obtain rfl : args = #[v0] := by cases args; simp_all
  obtain ⟨rfl, rfl⟩ := trodVars_none hV
  obtain ⟨A0, len0, c0, rfl⟩ := okWide_slice Try.underlying30 (hval 0 30 v0 rfl rfl)
  have k0 := h0
  have lt0 : ∀ x ∈ p0, x.block < W.heap.size := by obtain ⟨m, hm⟩ := k0; exact DataW.trod_lt m _ _ _ hm
  obtain ⟨xs0, rfl, w0⟩ : ∃ xs : List Int, xs.length = len0 ∧ Arg .u8 W A0 c0 xs := by
    obtain ⟨fuel, hf⟩ := h0
    rcases open_ints Try.underlying30 Try.underlying5 (by kernel_rfl) hf with ⟨hcs, _⟩ | ⟨x, l, c, zs, hcs, _, hl, hm, hz, _, hcell, hwz⟩
    · simp [Value.cells] at hcs
      obtain ⟨rfl, rfl, rfl⟩ := hcs
      exact Arg.none_
    · simp [Value.cells] at hcs
      obtain ⟨rfl, rfl, rfl⟩ := hcs
      exact Arg.row hl hm (by simpa using hz) hcell hwz
  clear hA0 hval0
  refine (walk A0 c0 xs0 W w0).mono fun e W' ⟨he, bel⟩ => ?_
  subst he
  exact ⟨_, rfl, _, _, _, [], _, [], hW', trodAll_mk1 (shut_bool Try.underlying4 _), (trodAll_cons_mk (Below.trod laidOut (by kernel_rfl) (of_decide_eq_true (by kernel_rfl)) k0 bel lt0) trodAll_mk0), rfl, bel.frame _, fun h => by cases h⟩

theorem nm : Try.f9.name = Rows.fnLookupRangeRow.func := by kernel_rfl
theorem notMain : decide (Check.packageOf Rows.fnLookupRangeRow.func = "main") = false := by kernel_rfl
theorem noWrapper : Func.isWrapper Try.prog Try.f9 Rows.fnLookupRangeRow.wrapper Rows.fnLookupRangeRow.mainSum := by
  unfold Func.isWrapper; rw [nm, if_neg (of_decide_eq_false notMain)]; exact ⟨rfl, rfl⟩
theorem closed : joinedFacts Try.prog 9 Try.f9 Rows.fnLookupRangeSpec Rows.fnLookupRangeRow = true := by
  unfold joinedFacts
  exact (andI (andI (andI (andI (andI (andI (andI (andI (andI (andI (andI (andI (andI (andI (andI (andI (andI (andI (andI (andI (andI (andI (andI (andI (andI (andI (andI (andI (andI (andI (andI (by kernel_rfl) laidOut) rowed) (by kernel_rfl)) (by kernel_rfl)) (by kernel_rfl)) (by kernel_rfl)) (by kernel_rfl)) (by kernel_rfl)) (by kernel_rfl)) (by kernel_rfl)) (by kernel_rfl)) (by kernel_rfl)) (by kernel_rfl)) (by kernel_rfl)) (by kernel_rfl)) (by kernel_rfl)) (by kernel_rfl)) (by kernel_rfl)) (by kernel_rfl)) (by kernel_rfl)) (by kernel_rfl)) (by rw [plain_keys]; kernel_rfl)) (by kernel_rfl)) heard) mayEnter) (by rw [liftsFinal]; kernel_rfl)) (by rw [makeCut]; kernel_rfl)) (by kernel_rfl)) (by kernel_rfl)) (by kernel_rfl)) (by kernel_rfl))
theorem noInstance : decide (Func.isInstance Try.prog Try.f9 Rows.fnLookupRangeRow.origin Rows.fnLookupRangeRow.targs) = true := by kernel_rfl
theorem named : Try.prog.funcNamed Rows.fnLookupRangeRow.func = some 9 := by kernel_rfl
theorem over : Rows.fnLookupRangeRow.holds Try.pinned (OpenSpec.ofChange Rows.fnLookupRangeSpec) :=
  OpenClaim.holds_of_wide 9 Try.f9 rfl rfl rfl rfl rfl rfl rfl ⟨rfl, rfl, rfl, rfl, rfl⟩ rfl rfl rfl rfl rfl named Try.func9 closed
    (of_decide_eq_true noInstance) noWrapper
    (fun os started H enc _ => lifted os started H enc)

/-- The statement. -/
theorem proved : Rows.FnLookupRangeSaid := over
#print axioms proved
end Go.Proofs.Ytdlmkgplekcogaa.FnLookupRange
