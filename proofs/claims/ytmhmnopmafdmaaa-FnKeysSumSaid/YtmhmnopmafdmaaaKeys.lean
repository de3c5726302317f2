/- Walks: LeaseKeys of the implementation and of the reference. -/
import Derived.Test.YtmhmnopmafdmaaaLof
namespace Go.Proofs.Ytmhmnopmafdmaaa
open Go.RowKit
set_option maxHeartbeats 1000000
set_option linter.unusedVariables false
/-- The owner of a key. -/
def own1 (xs : List Tri) (k : Nat) : Int := (lof xs (k : Int)).2.1
def lkVal (xs : List Tri) (owner : Int) : Int := if lval xs = true then if pos owner = true then (cnt (own1 xs) owner 64 : Int) else -1 else -1
theorem lk_impl (B : Nat) (A : Option Addr) (c : Nat) (xs : List Tri) (owner : Int) (hl : xs.length ≤ c) (hc : c ≤ maxLen) (w : World) (hB : B ≤ w.heap.size) (h : TrisAt w B A xs) :
    Calls Try.prog 20 #[.slice A xs.length c, .int .i64 owner] w fun e w' => e = .returned (.int .i64 (lkVal xs owner)) ∧ Below w.heap.size w w' := by
  have HA := Lib.hid (lv_impl B A c xs hl hc w hB h)
  cases hv : lval xs
  · have H := Lib.hid (show lkVal xs owner = -1 from by unfold lkVal; rw [hv]; rfl)
    clear h
    go_enter Try.func20, Try.ntmps20
    go_wp2_with fail
    refine (HA.out).mono ?_; rw [hv]; rintro e w1 ⟨rfl, hb⟩
    go_wp2
    go_ret
    exact ⟨ret_int H.out.symm, hb⟩
  cases hk : pos owner
  · have H := Lib.hid (show lkVal xs owner = -1 from by unfold lkVal; rw [hv, hk]; rfl)
    clear h
    go_enter Try.func20, Try.ntmps20
    go_wp2_with fail
    refine (HA.out).mono ?_; rw [hv]; rintro e w1 ⟨rfl, hb⟩
    go_wp2_with (go_at_call 37; refine (ok_any owner _).mono ?_; rw [hk]; rintro e w9 ⟨rfl, rfl⟩)
    go_ret
    exact ⟨ret_int H.out.symm, by first | exact hb | exact hb.trans (below_draw ⟨_, rfl⟩)⟩
  · have H := Lib.hid (show lkVal xs owner = (cnt (own1 xs) owner 64 : Int) from by unfold lkVal; rw [if_pos hv, if_pos hk])
    have hl1 := (lval_len hv).1
    have hl2 := (lval_len hv).2
    have hat := fun key => lof_at hl1 key
    have HLT := Lib.hid (fun key => lat_lt hl1 key)
    obtain ⟨b, off, rfl⟩ := h.some_ (by omega)
    have HC := fun (key : Int) (W : World) (hb : Below w.heap.size w W) => Lib.hid (leaseAt_any B _ c xs (Nat.le_trans hl hc) key W (Nat.le_trans hB hb.size) (h.below (hb.mono hB)))
    have HV := fun (key : Int) (W : World) (hb : Below w.heap.size w W) => Lib.hid ((h.below (hb.mono hB)).at_ (hat key))
    clear h hat
    go_enter Try.func20, Try.ntmps20
    go_wp2_with fail
    refine (HA.out).mono ?_; rw [hv]; rintro e w1 ⟨rfl, hb1⟩
    clear HA
    go_wp2_with (go_at_call 37; refine (ok_any owner _).mono ?_; rw [hk]; rintro e w9 ⟨rfl, rfl⟩)
    go_loopw [5, 15] (fun n i wr => ∃ k : Nat, k ≤ 64 ∧ i = .int .i64 k ∧ n = .int .i64 (cnt (own1 xs) owner k : Int) ∧ Below w.heap.size w wr) (fun _ i _ => 64 - (intOf i).toNat)
    case atStart => exact ⟨0, Nat.zero_le _, rfl, rfl, by first | exact hb1 | exact hb1.trans (below_draw ⟨_, rfl⟩)⟩
    case round =>
      obtain ⟨k, hk64, rfl, rfl, hb⟩ := hrel
      have hcl := cnt_le (own1 xs) owner k
      have HS := Lib.hid (cnt_succ (own1 xs) owner k)
      have HM := Lib.hid (show (cnt (own1 xs) owner k : Int) = (cnt (own1 xs) owner k : Int) from rfl)
      have HE := Lib.hid (show own1 xs k = (lof xs (k : Int)).2.1 from rfl)
      generalize hm : cnt (own1 xs) owner k = m at HS hcl ⊢
      replace HM := Lib.hid hm
      clear hm
      by_cases hlt : k < 64
      · have hlk := HLT.out (k : Int)
        have HC' := HC (k : Int)
        have HV' := HV (k : Int)
        clear HC HV
        generalize lat xs (k : Int) = n at HC' HV' hlk
        generalize lof xs (k : Int) = v at HV' HE
        have HC := fun (_ : Unit) => HC'
        have HV := fun (_ : Unit) => HV'
        clear HC' HV'
        by_cases hp : v.2.1 = owner
        · have HP := Lib.hid hp
          have hpb : (v.2.1 == owner) = true := by simpa using hp
          clear hp
          go_wp2_with ((go_at_call 38; refine ((HC () wr hb).out).mono ?_; rintro e w2 ⟨rfl, hb2⟩; obtain ⟨q1, q2, q3⟩ := (HV () w2 (below_next hb hb2)).out))
          go_roundw
          case rel => exact ⟨k + 1, by omega, by go_num, by rw [HS.out, if_pos (by rw [HE.out, HP.out])]; go_num, below_next hb hb2⟩
          case measure => simp [intOf]; omega
        · have HP := Lib.hid hp
          have hpb : (v.2.1 == owner) = false := by rw [beq_eq_false_iff_ne]; exact hp
          clear hp
          go_wp2_with ((go_at_call 38; refine ((HC () wr hb).out).mono ?_; rintro e w2 ⟨rfl, hb2⟩; obtain ⟨q1, q2, q3⟩ := (HV () w2 (below_next hb hb2)).out))
          go_roundw
          case rel => exact ⟨k + 1, by omega, by go_num, by rw [HS.out, if_neg (by rw [HE.out]; exact HP.out)]; rfl, below_next hb hb2⟩
          case measure => simp [intOf]; omega
      · have : k = 64 := by omega
        subst this
        clear HC HV
        go_wp2
        go_ret
        exact ⟨ret_int (by rw [H.out, HM.out]), hb⟩
theorem lk_spec (B : Nat) (A : Option Addr) (c : Nat) (xs : List Tri) (owner : Int) (hl : xs.length ≤ c) (hc : c ≤ maxLen) (w : World) (hB : B ≤ w.heap.size) (h : TrisAt w B A xs) :
    Calls Try.prog 19 #[.slice A xs.length c, .int .i64 owner] w fun e w' => e = .returned (.int .i64 (lkVal xs owner)) ∧ Below w.heap.size w w' := by
  have HA := Lib.hid (lv_spec B A c xs hl hc w hB h)
  cases hv : lval xs
  · have H := Lib.hid (show lkVal xs owner = -1 from by unfold lkVal; rw [hv]; rfl)
    clear h
    go_enter Try.func19, Try.ntmps19
    go_wp2_with fail
    refine (HA.out).mono ?_; rw [hv]; rintro e w1 ⟨rfl, hb⟩
    go_wp2
    go_ret
    exact ⟨ret_int H.out.symm, hb⟩
  cases hk : pos owner
  · have H := Lib.hid (show lkVal xs owner = -1 from by unfold lkVal; rw [hv, hk]; rfl)
    clear h
    go_enter Try.func19, Try.ntmps19
    go_wp2_with fail
    refine (HA.out).mono ?_; rw [hv]; rintro e w1 ⟨rfl, hb⟩
    go_wp2_with (go_at_call 29; refine (point_val hk _).mono ?_; rintro e w9 ⟨rfl, hw9⟩; obtain rfl := hw9.symm)
    go_ret
    exact ⟨ret_int H.out.symm, by first | exact hb | exact hb.trans (below_draw ⟨_, rfl⟩)⟩
  · have H := Lib.hid (show lkVal xs owner = (cnt (own1 xs) owner 64 : Int) from by unfold lkVal; rw [if_pos hv, if_pos hk])
    have hl1 := (lval_len hv).1
    have hl2 := (lval_len hv).2
    have hat := fun key => lof_at hl1 key
    have HLT := Lib.hid (fun key => lat_lt hl1 key)
    obtain ⟨b, off, rfl⟩ := h.some_ (by omega)
    have HC := fun (key : Int) (W : World) (hb : Below w.heap.size w W) => Lib.hid (sAt_any B _ c xs (Nat.le_trans hl hc) key W (h.below (hb.mono hB)))
    have HV := fun (key : Int) (W : World) (hb : Below w.heap.size w W) => Lib.hid ((h.below (hb.mono hB)).at_ (hat key))
    clear h hat
    go_enter Try.func19, Try.ntmps19
    go_wp2_with fail
    refine (HA.out).mono ?_; rw [hv]; rintro e w1 ⟨rfl, hb1⟩
    clear HA
    go_wp2_with (go_at_call 29; refine (point_val hk _).mono ?_; rintro e w9 ⟨rfl, hw9⟩; obtain rfl := hw9.symm)
    go_loopw [5, 6] (fun n i wr => ∃ k : Nat, k ≤ 64 ∧ i = .int .i64 k ∧ n = .int .i64 (cnt (own1 xs) owner k : Int) ∧ Below w.heap.size w wr) (fun _ i _ => 64 - (intOf i).toNat)
    case atStart => exact ⟨0, Nat.zero_le _, rfl, rfl, by first | exact hb1 | exact hb1.trans (below_draw ⟨_, rfl⟩)⟩
    case round =>
      obtain ⟨k, hk64, rfl, rfl, hb⟩ := hrel
      have hcl := cnt_le (own1 xs) owner k
      have HS := Lib.hid (cnt_succ (own1 xs) owner k)
      have HM := Lib.hid (show (cnt (own1 xs) owner k : Int) = (cnt (own1 xs) owner k : Int) from rfl)
      have HE := Lib.hid (show own1 xs k = (lof xs (k : Int)).2.1 from rfl)
      generalize hm : cnt (own1 xs) owner k = m at HS hcl ⊢
      replace HM := Lib.hid hm
      clear hm
      by_cases hlt : k < 64
      · have hlk := HLT.out (k : Int)
        have HC' := HC (k : Int)
        have HV' := HV (k : Int)
        clear HC HV
        generalize lat xs (k : Int) = n at HC' HV' hlk
        generalize lof xs (k : Int) = v at HV' HE
        have HC := fun (_ : Unit) => HC'
        have HV := fun (_ : Unit) => HV'
        clear HC' HV'
        by_cases hp : v.2.1 = owner
        · have HP := Lib.hid hp
          have hpb : (v.2.1 == owner) = true := by simpa using hp
          clear hp
          go_wp2_with ((go_at_call 36; refine ((HC () wr hb).out).mono ?_; rintro e w2 ⟨rfl, hd2⟩; have hb2 := below_draw hd2; obtain ⟨q1, q2, q3⟩ := (HV () w2 (below_next hb hb2)).out))
          go_roundw
          case rel => exact ⟨k + 1, by omega, by go_num, by rw [HS.out, if_pos (by rw [HE.out, HP.out])]; go_num, below_next hb hb2⟩
          case measure => simp [intOf]; omega
        · have HP := Lib.hid hp
          have hpb : (v.2.1 == owner) = false := by rw [beq_eq_false_iff_ne]; exact hp
          clear hp
          go_wp2_with ((go_at_call 36; refine ((HC () wr hb).out).mono ?_; rintro e w2 ⟨rfl, hd2⟩; have hb2 := below_draw hd2; obtain ⟨q1, q2, q3⟩ := (HV () w2 (below_next hb hb2)).out))
          go_roundw
          case rel => exact ⟨k + 1, by omega, by go_num, by rw [HS.out, if_neg (by rw [HE.out]; exact HP.out)]; rfl, below_next hb hb2⟩
          case measure => simp [intOf]; omega
      · have : k = 64 := by omega
        subst this
        clear HC HV
        go_wp2
        go_ret
        exact ⟨ret_int (by rw [H.out, HM.out]), hb⟩
end Go.Proofs.Ytmhmnopmafdmaaa
