/- The law FnLeaseOne: every key is held by one lease. Proved for every input, no condition: the law's Go function returns true, and each argument reads afterwards as it read before. -/
import Derived.Test.YtmhmnopmafdmaaaSeat
import Derived.Test.YtmhmnopmafdmaaaDrawT
import Derived.Test.YtmhmnopmafdmaaaLof
import Derived.WalkKit
import Derived.ProofKit
import Derived.OpenShut
import Derived.ShutString
import Derived.ChangeOld
import Derived.Below
namespace Go.Proofs.Ytmhmnopmafdmaaa.FnLeaseOne
open Go.ChangeShapes Go.WideShapes Go.ChangeAt Go.RowKit
open Go.ChangeMaps (open_string shut_string)
set_option linter.unusedVariables false
set_option maxHeartbeats 400000

theorem below_da {B : Nat} {w w' : World} (h : Below B w w') (hB : B ≤ w'.heap.size) (o : Obj) (n : Nat) : Below B w ((w'.alloc o).drewN n) := ⟨(h.alloc hB o).os, (h.alloc hB o).tape, (h.alloc hB o).output, (h.alloc hB o).size, (h.alloc hB o).block⟩
def latI (xs : List Tri) (k : Nat) : Int := (lat xs (k : Int) : Int)
theorem lo_key {xs : List Tri} (h : lval xs = true) {k : Nat} (hk : k < 64) : loOk xs (k : Int) = true ∧ loVal xs (k : Int) = lof xs (k : Int) := by
  have hkk : loOk xs (k : Int) = true := by unfold loOk; rw [h, pos_iff.2 ⟨by omega, by omega⟩]; rfl
  exact ⟨hkk, by unfold loVal; rw [if_pos hkk]⟩
theorem one_sum {xs : List Tri} (h : lval xs = true) : sumTo (fun p => cnt (latI xs) (p : Int) 64) xs.length = 64 := by
  refine count_all (latI xs) xs.length 64 fun k _ => ?_
  have := lat_lt (lval_len h).1 (k : Int)
  unfold latI; omega
theorem one_pos {xs : List Tri} (h : lval xs = true) {i : Nat} (hi : i < xs.length) : 0 < cnt (latI xs) (i : Int) 64 := by
  have hx : xs[i]? = some xs[i] := List.getElem?_eq_getElem hi
  have hm := pos_iff.1 ((lval_iff.1 h).2.1 _ (List.getElem_mem hi)).1
  obtain ⟨k, hk⟩ := Int.eq_ofNat_of_zero_le hm.1
  refine cnt_pos (k := k) (by omega) ?_
  unfold latI
  have := lat_end (lval_iff.1 h).2.2 hx
  rw [hk] at this
  rw [show ((k : Nat) : Int) = (k : Int) from rfl, this]
theorem one_eq {xs : List Tri} (h : lval xs = true) {i : Nat} {x : Tri} (hx : xs[i]? = some x) (k : Nat) : ((lof xs (k : Int)).1 = x.1 ↔ latI xs k = (i : Int)) := by
  have ha := lof_at (lval_len h).1 (k : Int)
  unfold latI
  constructor
  · intro e
    have := end_inj (lval_iff.1 h).2.2 ha hx e
    omega
  · intro e
    have e' : lat xs (k : Int) = i := by omega
    rw [e', hx] at ha
    injection ha with ha
    rw [← ha]
set_option maxHeartbeats 4000000 in
theorem walk (A : Option Addr) (c : Nat) (xs : List Int) (w : World) (w0 : Arg .u8 w A c xs) : Calls Try.prog 7 #[.slice A xs.length c] w fun e w' => e = .returned (.bool true) ∧ Below w.heap.size w w' := by
  have HO := Lib.hid (drawLof_any A c xs w w0)
  obtain ⟨hl, hc, -, -⟩ := w0
  unfold maxLen at hc
  by_cases hbig : 1048576 < xs.length
  · go_enter Try.func7, Try.ntmps7
    go_wp2
    go_ret
    exact ⟨rfl, Below.refl _ _⟩
  have hsm : xs.length ≤ 1048576 := by omega
  clear hbig hl hc
  go_enter Try.func7, Try.ntmps7
  go_wp2_with fail
  refine HO.out.mono ?_; rintro e w1 ⟨A1, c1, ys, key, rfl, ho, hy12, ⟨k0, k1⟩, hB⟩
  clear HO
  obtain ⟨hlc, hcm⟩ := ho.len
  have HI := fun (o : Int) (W : World) (h : OwnT W w.heap.size A1 c1 ys) => Lib.hid (lo_impl W.heap.size A1 c1 ys o hlc hcm W (Nat.le_refl _) h.tris)
  have HS := fun (W : World) (h : OwnT W w.heap.size A1 c1 ys) => Lib.hid (lo_spec W.heap.size A1 c1 ys key hlc hcm W (Nat.le_refl _) h.tris)
  unfold LoRet at HI HS
  cases hok : loOk ys key
  · skip
    have h1 := HI key w1 ho
    have hok : loOk ys key = false := hok
    rw [hok] at h1 HS
    generalize loVal ys key = v at h1 HS
    go_wp2_with fail
    refine h1.out.mono ?_; rintro e w2 ⟨rfl, hb2⟩
    replace ho := (ho.below hb2 (Nat.le_refl _)).alloc (.cells #[.int .i64 v.1, .int .i64 v.2.1, .int .i64 v.2.2] 30 (0, 0))
    have hgb0 := (below_next hB hb2).size
    replace hB := (below_next hB hb2).alloc (below_next hB hb2).size (.cells #[.int .i64 v.1, .int .i64 v.2.1, .int .i64 v.2.2] 30 (0, 0))
    have HT := Lib.hid (alloc_top w2 (.cells #[.int .i64 v.1, .int .i64 v.2.1, .int .i64 v.2.2] 30 (0, 0)))
    have hlt2 : w2.heap.size < (w2.alloc (.cells #[.int .i64 v.1, .int .i64 v.2.1, .int .i64 v.2.2] 30 (0, 0))).heap.size := by simp
    clear h1 hb2
    go_wp2_with fail
    generalize w2.alloc (.cells #[.int .i64 v.1, .int .i64 v.2.1, .int .i64 v.2.2] 30 (0, 0)) = W2 at hB HT hlt2 ho ⊢
    have h2 := HS W2 ho
    clear HS
    refine h2.out.mono ?_; rintro e w3 ⟨rfl, hb3⟩
    replace ho := (ho.below hb3 (Nat.le_refl _)).alloc (.cells #[.int .i64 v.1, .int .i64 v.2.1, .int .i64 v.2.2] 30 (0, 0))
    have hA3 : Below w3.heap.size w3 (w3.alloc (.cells #[.int .i64 v.1, .int .i64 v.2.1, .int .i64 v.2.2] 30 (0, 0))) := (Below.refl _ _).alloc (Nat.le_refl _) _
    have ht := (hA3.block _ (Nat.lt_of_lt_of_le hlt2 hb3.size)).trans ((hb3.block _ hlt2).trans HT.out)
    replace hB := below_next (below_next hB hb3) hA3
    have hgb : w.heap.size ≤ w2.heap.size := hgb0
    obtain ⟨q1, q2, q3⟩ := cells3 ht
    have HQ := Lib.hid ht
    have HO1 := Lib.hid ho
    have hne : w2.heap.size < w3.heap.size := Nat.lt_of_lt_of_le hlt2 hb3.size
    clear h2 hb3 ht HT hA3 hlt2 ho
    obtain ⟨r1, r2, r3⟩ := cells3 (alloc_top w3 (.cells #[.int .i64 v.1, .int .i64 v.2.1, .int .i64 v.2.2] 30 (0, 0)))
    go_wp2
    go_ret
    exact ⟨rfl, hB⟩
  · have hlv : lval ys = true := by unfold loOk at hok; simp only [Bool.and_eq_true] at hok; exact hok.1
    have HSUM := Lib.hid (one_sum hlv)
    have HKEY := fun (k : Nat) (hk : k < 64) => Lib.hid (lo_key hlv hk)
    have HPOS := fun (i : Nat) (hi : i < ys.length) => Lib.hid (one_pos hlv hi)
    have HEQ := fun (i : Nat) (x : Tri) (hx : ys[i]? = some x) (k : Nat) => Lib.hid (one_eq hlv hx k)
    have HG := Lib.hid (sumTo_le (fun p => cnt (latI ys) (p : Int) 64) 64 (fun p => cnt_le _ _ _))
    clear hlv
    have h1 := HI key w1 ho
    have hok : loOk ys key = true := hok
    rw [hok] at h1 HS
    generalize loVal ys key = v at h1 HS
    go_wp2_with fail
    refine h1.out.mono ?_; rintro e w2 ⟨rfl, hb2⟩
    replace ho := (ho.below hb2 (Nat.le_refl _)).alloc (.cells #[.int .i64 v.1, .int .i64 v.2.1, .int .i64 v.2.2] 30 (0, 0))
    have hgb0 := (below_next hB hb2).size
    replace hB := (below_next hB hb2).alloc (below_next hB hb2).size (.cells #[.int .i64 v.1, .int .i64 v.2.1, .int .i64 v.2.2] 30 (0, 0))
    have HT := Lib.hid (alloc_top w2 (.cells #[.int .i64 v.1, .int .i64 v.2.1, .int .i64 v.2.2] 30 (0, 0)))
    have hlt2 : w2.heap.size < (w2.alloc (.cells #[.int .i64 v.1, .int .i64 v.2.1, .int .i64 v.2.2] 30 (0, 0))).heap.size := by simp
    clear h1 hb2
    go_wp2_with fail
    generalize w2.alloc (.cells #[.int .i64 v.1, .int .i64 v.2.1, .int .i64 v.2.2] 30 (0, 0)) = W2 at hB HT hlt2 ho ⊢
    have h2 := HS W2 ho
    clear HS
    refine h2.out.mono ?_; rintro e w3 ⟨rfl, hb3⟩
    replace ho := (ho.below hb3 (Nat.le_refl _)).alloc (.cells #[.int .i64 v.1, .int .i64 v.2.1, .int .i64 v.2.2] 30 (0, 0))
    have hA3 : Below w3.heap.size w3 (w3.alloc (.cells #[.int .i64 v.1, .int .i64 v.2.1, .int .i64 v.2.2] 30 (0, 0))) := (Below.refl _ _).alloc (Nat.le_refl _) _
    have ht := (hA3.block _ (Nat.lt_of_lt_of_le hlt2 hb3.size)).trans ((hb3.block _ hlt2).trans HT.out)
    replace hB := below_next (below_next hB hb3) hA3
    have hgb : w.heap.size ≤ w2.heap.size := hgb0
    obtain ⟨q1, q2, q3⟩ := cells3 ht
    have HQ := Lib.hid ht
    have HO1 := Lib.hid ho
    have hne : w2.heap.size < w3.heap.size := Nat.lt_of_lt_of_le hlt2 hb3.size
    clear h2 hb3 ht HT hA3 hlt2 ho
    obtain ⟨r1, r2, r3⟩ := cells3 (alloc_top w3 (.cells #[.int .i64 v.1, .int .i64 v.2.1, .int .i64 v.2.2] 30 (0, 0)))
    clear r1 r2 r3
    go_wp2_with fail
    clear q1 q2 q3 HQ
    go_loopw [9, 10] (fun s i wr => ∃ k : Nat, k ≤ ys.length ∧ i = .int .i64 k ∧ s = .int .i64 (sumTo (fun p => cnt (latI ys) (p : Int) 64) k : Int) ∧ OwnT wr w.heap.size A1 c1 ys ∧ Below w.heap.size w wr) (fun _ i _ => ys.length - (intOf i).toNat)
    case atStart => exact ⟨0, Nat.zero_le _, rfl, rfl, HO1.out, hB⟩
    case round =>
      clear HO1 hB
      obtain ⟨i, hi, rfl, rfl, ho, hB⟩ := hrel
      have hle := HG.out i
      have HST := Lib.hid (show sumTo (fun p => cnt (latI ys) (p : Int) 64) (i + 1) = sumTo (fun p => cnt (latI ys) (p : Int) 64) i + cnt (latI ys) (i : Int) 64 from rfl)
      have HK := Lib.hid (show i = ys.length → sumTo (fun p => cnt (latI ys) (p : Int) 64) i = 64 from fun e => by rw [e]; exact HSUM.out)
      generalize sumTo (fun p => cnt (latI ys) (p : Int) 64) i = sm at hle HST HK ⊢
      by_cases hlt : i < ys.length
      · obtain ⟨x, hx⟩ : ∃ x, ys[i]? = some x := ⟨_, List.getElem?_eq_getElem hlt⟩
        have HE := fun (k : Nat) => HEQ i x hx k
        have HX := Lib.hid hx
        have hnp := (HPOS i hlt).out
        have HO := Lib.hid ho
        have hcB := cnt_le (latI ys) (i : Int) 64
        have hii : (i : Int) < (ys.length : Int) := by omega
        clear HPOS hx ho HEQ HG HK
        go_wp2_with fail
        go_loopw [11, 12] (fun n j w7 => ∃ k : Nat, k ≤ 64 ∧ j = .int .i64 k ∧ n = .int .i64 (cnt (latI ys) (i : Int) k : Int) ∧ OwnT w7 w.heap.size A1 c1 ys ∧ Below w.heap.size w w7) (fun _ j _ => 64 - (intOf j).toNat)
        case atStart => exact ⟨0, by omega, rfl, rfl, HO.out, hB⟩
        case round =>
          rename World => w7
          clear HO hB
          obtain ⟨k, hk, rfl, rfl, ho, hB⟩ := hrel
          have hcl := cnt_le (latI ys) (i : Int) k
          have HS2 := Lib.hid (cnt_succ (latI ys) (i : Int) k)
          have HM := Lib.hid (show k = 64 → cnt (latI ys) (i : Int) k = cnt (latI ys) (i : Int) 64 from fun e => by rw [e])
          generalize cnt (latI ys) (i : Int) k = m at hcl HS2 HM ⊢
          by_cases hlt2 : k < 64
          · obtain ⟨e1, e2⟩ := (HKEY k hlt2).out
            have h1 := HI (k : Int) w7 ho
            rw [e1, e2] at h1
            have he := HE k
            generalize lof ys (k : Int) = u at h1 he
            obtain ⟨u1, u2, u3⟩ := u
            obtain ⟨x1, x2, x3⟩ := x
            obtain ⟨g, rfl⟩ := ho.some_ (by omega)
            have HO := Lib.hid ho
            have hgl : g < w7.heap.size := (OwnT.block (o := 0) (s := none) ho).2
            clear e1 e2 HI HKEY ho HE
            go_wp2_with fail
            refine h1.out.mono ?_; rintro e w8 ⟨rfl, hb8⟩
            have ho8 := HO.out.below hb8 (Nat.le_refl _)
            obtain ⟨d1, d2, d3⟩ := ho8.at_ HX.out
            simp only at d1 d2 d3
            have hgl8 : g < w8.heap.size := Nat.lt_of_lt_of_le hgl hb8.size
            replace hB := below_next hB hb8
            have HO8 := Lib.hid ho8
            clear hb8 ho8 h1 HO
            by_cases hq : latI ys k = (i : Int)
            · have hu : u1 = x1 := he.out.2 hq
              have HQ2 := Lib.hid hq
              subst hu
              clear he hq
              go_wp2_with fail
              go_quiet (fail)
              go_wp2
              go_roundw
              case rel => exact ⟨k + 1, by omega, by go_num, by rw [HS2.out, if_pos HQ2.out]; go_num, (HO8.out.alloc _).drewN _, below_da hB hB.size _ _⟩
              case measure => simp [intOf]; omega
            · have hu : (u1 == x1) = false := by rw [beq_eq_false_iff_ne]; exact fun e => hq (he.out.1 e)
              have HQ2 := Lib.hid hq
              clear he hq
              go_wp2_with fail
              go_quiet (fail)
              go_wp2
              go_roundw
              case rel => exact ⟨k + 1, by omega, by go_num, by rw [HS2.out, if_neg HQ2.out]; rfl, (HO8.out.alloc _).drewN _, below_da hB hB.size _ _⟩
              case measure => simp [intOf]; omega
          · have hk64 : k = 64 := by omega
            have hm := HM.out hk64
            subst hk64
            rw [← hm] at HST hnp hcB
            have hmz : ((m : Int) == 0) = false := by rw [beq_eq_false_iff_ne]; omega
            have hmz2 : ¬ m = 0 := by omega
            have HOO := Lib.hid ho
            clear HI HKEY HE ho hm
            go_wp2
            go_roundw
            case rel => exact ⟨i + 1, by omega, by go_num, by rw [HST.out]; go_num, HOO.out, hB⟩
            case measure => simp [intOf]; omega
      · have : i = ys.length := by omega
        have hm := HK.out this
        subst hm
        clear HI HKEY HEQ HPOS HG
        go_wp2
        go_ret
        exact ⟨rfl, hB⟩

set_option maxRecDepth 100000 in
theorem lifted (os : Os) (started : os.Started) (H : Type) (enc : TypeId × Value → H) :
    ReturnsInHanded {} Try.checked os 7 .any (Rows.fnLeaseOneSpec.pre6 enc Try.prog Try.f7 Rows.fnLeaseOneRow.domain false) (Rows.fnLeaseOneSpec.post enc Try.prog Try.f7 false true false false) := by
  refine returnsInHanded_of_change (C := Try.checked) own started (by kernel_rfl) Try.func7
    (ChangeSpec.witness6 (enc := enc) (C := Try.checked) false ⟨#[], #[.slice none 0 0], []⟩ 8 (by kernel_rfl) (by kernel_rfl) (by kernel_rfl) (by kernel_rfl)) ?_
  intro W base args ds gs before hval0 hW hcnd _
  have hval : ∀ (j : Nat) t v, Try.f7.params[j]? = some t → args[j]? = some v → Value.okWide Try.prog W .any base t v := hval0
  have hW' := hW
  obtain ⟨p, q, hA0, hV, rfl, hfz, hnd⟩ := hW
  have hA : DataW.TrodAll enc Try.prog W 0 (fun _ => true) true Try.f7.params.toList args.toList ds p := hA0
  rw [Try.params7] at hA hval
  obtain ⟨v0, vs0, d0, ds0, p0, q0, hargs, rfl, rfl, h0, r0⟩ := trodAll_cons hA
  obtain ⟨rfl, rfl, rfl⟩ := trodAll_nil r0
  obtain rfl : args = #[v0] := by cases args; simp_all
  obtain ⟨rfl, rfl⟩ := trodVars_none hV
  obtain ⟨A0, len0, c0, rfl⟩ := okWide_slice Try.underlying36 (hval 0 36 v0 rfl rfl)
  have k0 := h0
  have lt0 : ∀ x ∈ p0, x.block < W.heap.size := by obtain ⟨m, hm⟩ := k0; exact DataW.trod_lt m _ _ _ hm
  obtain ⟨xs0, rfl, w0⟩ : ∃ xs : List Int, xs.length = len0 ∧ Arg .u8 W A0 c0 xs := by
    obtain ⟨fuel, hf⟩ := h0
    rcases open_ints Try.underlying36 Try.underlying5 (by kernel_rfl) hf with ⟨hcs, _⟩ | ⟨x, l, c, zs, hcs, _, hl, hm, hz, _, hcell, hwz⟩
    · simp [Value.cells] at hcs
      obtain ⟨rfl, rfl, rfl⟩ := hcs
      exact Arg.none_
    · simp [Value.cells] at hcs
      obtain ⟨rfl, rfl, rfl⟩ := hcs
      exact Arg.row hl hm (by simpa using hz) hcell hwz
  clear hA0 hval0
  refine (walk A0 c0 xs0 W w0).mono fun e W' ⟨he, bel⟩ => ?_
  subst he
  exact ⟨_, rfl, _, _, _, [], _, [], hW', trodAll_mk1 (shut_bool Try.underlying4 _), (trodAll_cons_mk (Below.trod laidOut (by kernel_rfl) (of_decide_eq_true (by kernel_rfl)) k0 bel lt0) trodAll_mk0), rfl, bel.frame _, fun h => by cases h⟩

theorem nm : Try.f7.name = Rows.fnLeaseOneRow.func := by kernel_rfl
theorem notMain : decide (Check.packageOf Rows.fnLeaseOneRow.func = "main") = false := by kernel_rfl
theorem noWrapper : Func.isWrapper Try.prog Try.f7 Rows.fnLeaseOneRow.wrapper Rows.fnLeaseOneRow.mainSum := by
  unfold Func.isWrapper; rw [nm, if_neg (of_decide_eq_false notMain)]; exact ⟨rfl, rfl⟩
theorem closed : joinedFacts Try.prog 7 Try.f7 Rows.fnLeaseOneSpec Rows.fnLeaseOneRow = true := by
  unfold joinedFacts
  exact (andI (andI (andI (andI (andI (andI (andI (andI (andI (andI (andI (andI (andI (andI (andI (andI (andI (andI (andI (andI (andI (andI (andI (andI (andI (andI (andI (andI (andI (andI (andI (by kernel_rfl) laidOut) rowed) (by kernel_rfl)) (by kernel_rfl)) (by kernel_rfl)) (by kernel_rfl)) (by kernel_rfl)) (by kernel_rfl)) (by kernel_rfl)) (by kernel_rfl)) (by kernel_rfl)) (by kernel_rfl)) (by kernel_rfl)) (by kernel_rfl)) (by kernel_rfl)) (by kernel_rfl)) (by kernel_rfl)) (by kernel_rfl)) (by kernel_rfl)) (by kernel_rfl)) (by kernel_rfl)) (by rw [plain_keys]; kernel_rfl)) (by kernel_rfl)) heard) mayEnter) (by rw [liftsFinal]; kernel_rfl)) (by rw [makeCut]; kernel_rfl)) (by kernel_rfl)) (by kernel_rfl)) (by kernel_rfl)) (by kernel_rfl))
theorem noInstance : decide (Func.isInstance Try.prog Try.f7 Rows.fnLeaseOneRow.origin Rows.fnLeaseOneRow.targs) = true := by kernel_rfl
theorem named : Try.prog.funcNamed Rows.fnLeaseOneRow.func = some 7 := by kernel_rfl
theorem over : Rows.fnLeaseOneRow.holds Try.pinned (OpenSpec.ofChange Rows.fnLeaseOneSpec) :=
  OpenClaim.holds_of_wide 7 Try.f7 rfl rfl rfl rfl rfl rfl rfl ⟨rfl, rfl, rfl, rfl, rfl⟩ rfl rfl rfl rfl rfl named Try.func7 closed
    (of_decide_eq_true noInstance) noWrapper
    (fun os started H enc _ => lifted os started H enc)

/-- The statement. -/
theorem proved : Rows.FnLeaseOneSaid := over
#print axioms proved
end Go.Proofs.Ytmhmnopmafdmaaa.FnLeaseOne
