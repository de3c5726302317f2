/- Walks: LeaseTake of the implementation (seize, granted) and of the reference (l12Set). -/
import Derived.Test.YtkjolmbcafonaaaDoorLof
import Derived.Test.YtkjolmbcafonaaaDoorClone
import Derived.Test.YtkjolmbcafonaaaDoorErr
namespace Go.Proofs.YtkjolmbcafonaaaDoor
open Go.RowKit
set_option maxHeartbeats 2000000
set_option linter.unusedVariables false
def tkGo (xs : List Tri) (key to now till : Int) : Bool := lval xs && (allPos [key, to] && (timeOk now && timeOk till))
def tkB (xs : List Tri) (key to now till : Int) : Bool := tkGo xs key to now till && decide ((lof xs key).2.2 < now)
def tkL (xs : List Tri) (key to now till : Int) : List Tri := if tkGo xs key to now till = true then (if (lof xs key).2.2 < now then seizeT xs key to till else xs) else []
def TkRet (w : World) (L : List Tri) (ok : Bool) (e : Ending) (w' : World) : Prop := ∃ (A : Option Addr) (c : Nat), e = .returned (.tuple #[.slice A L.length c, .bool ok]) ∧ OwnT w' w.heap.size A c L ∧ Below w.heap.size w w'
theorem tk_le (xs : List Tri) (key to now till : Int) : (tkL xs key to now till).length ≤ 12 := by
  unfold tkL
  split
  · next h =>
    unfold tkGo at h
    simp only [Bool.and_eq_true] at h
    have := (lval_len h.1).2
    split
    · rw [seize_len]; exact this
    · exact this
  · simp
theorem ret_rowB {A : Option Addr} {n n' c : Nat} {z z' : Bool} (h : n = n') (h' : z = z') : Ending.returned (.tuple #[.slice A n c, .bool z]) = .returned (.tuple #[.slice A n' c, .bool z']) := by rw [h, h']
/-- positions over two numbers in a world as it stands. -/
theorem pos2O {a b : Int} {r : Bool} (h : allPos [a, b] = r) (W : World) : Calls Tryd.prog 28 #[.slice (some ⟨W.heap.size, 0, none⟩) 2 2] (W.alloc (.cells #[.int .i64 a, .int .i64 b] 3)) fun e w' => e = .returned (.bool r) ∧ Below W.heap.size W w' :=
  (positions2 a b W).mono fun _ _ ⟨e, k⟩ => ⟨by rw [e, h], by rw [← k]; exact (Below.refl _ _).alloc (Nat.le_refl _) _⟩
theorem time2O {a b : Int} {r : Bool} (h : (timeOk a && timeOk b) = r) (W : World) : Calls Tryd.prog 29 #[.slice (some ⟨W.heap.size, 0, none⟩) 2 2] (W.alloc (.cells #[.int .i64 a, .int .i64 b] 3)) fun e w' => e = .returned (.bool r) ∧ Below W.heap.size W w' :=
  (times2 a b W).mono fun _ _ ⟨e, k⟩ => ⟨by rw [e, h], by rw [← k]; exact (Below.refl _ _).alloc (Nat.le_refl _) _⟩
theorem seize_args (B : Nat) (A : Option Addr) (c : Nat) (xs : List Tri) (key to now till : Int) (a0 a1 : Addr) (hl : xs.length ≤ c) (hc : c ≤ maxLen) (w : World) (hB : B ≤ w.heap.size) (h : TrisAt w B A xs) (hs : Sent w a0 a1) (hgo : tkGo xs key to now till = false) :
    Calls Tryd.prog 18 #[.slice A xs.length c, .int .i64 key, .int .i64 to, .int .i64 now, .int .i64 till] w fun e w' => e = .returned (.tuple #[.slice none 0 0, .iface 79 (.pointer (some a0))]) ∧ Below w.heap.size w w' := by
  have HA := Lib.hid (lv_impl B A c xs hl hc w hB h)
  unfold tkGo at hgo
  clear h
  cases hv : lval xs
  · go_enter Tryd.func18, Tryd.ntmps18
    go_wp2_with fail
    refine (HA.out).mono ?_; rw [hv]; rintro e w1 ⟨rfl, hb⟩
    have hg0 := (hs.below hb).g0
    go_wp2_with fail
    go_quiet (fail)
    go_wp2
    go_ret2
    exact ⟨rfl, hb.os, hb.tape, hb.output, hb.size, hb.block⟩
  cases hp : allPos [key, to]
  · go_enter Tryd.func18, Tryd.ntmps18
    go_wp2_with fail
    refine (HA.out).mono ?_; rw [hv]; rintro e w1 ⟨rfl, hb⟩
    go_wp2_with (go_at_call 28; refine (pos2O hp w1).mono ?_; rintro e w2 ⟨rfl, hb2⟩; have hg0 := (hs.below (below_next hb hb2)).g0)
    have hB2 := below_next hb hb2
    go_quiet (fail)
    go_wp2
    go_ret2
    exact ⟨rfl, hB2.os, hB2.tape, hB2.output, hB2.size, hB2.block⟩
  cases ht : (timeOk now && timeOk till)
  · go_enter Tryd.func18, Tryd.ntmps18
    go_wp2_with fail
    refine (HA.out).mono ?_; rw [hv]; rintro e w1 ⟨rfl, hb⟩
    go_wp2_with (first
      | (go_at_call 28; refine (pos2O hp w1).mono ?_; rintro e w2 ⟨rfl, hb2⟩)
      | (go_at_call 29; refine (time2O ht w2).mono ?_; rintro e w3 ⟨rfl, hb3⟩; have hg0 := (hs.below (below_next (below_next hb hb2) hb3)).g0))
    have hB3 := below_next (below_next hb hb2) hb3
    go_quiet (fail)
    go_wp2
    go_ret2
    exact ⟨rfl, hB3.os, hB3.tape, hB3.output, hB3.size, hB3.block⟩
  · rw [hv, hp, ht] at hgo; cases hgo
theorem seize_refused (B : Nat) (A : Option Addr) (c : Nat) (xs : List Tri) (key to now till : Int) (a0 a1 : Addr) (hl : xs.length ≤ c) (hc : c ≤ maxLen) (w : World) (hB : B ≤ w.heap.size) (h : TrisAt w B A xs) (hs : Sent w a0 a1) (hgo : tkGo xs key to now till = true) (hex : ¬ (lof xs key).2.2 < now) :
    Calls Tryd.prog 18 #[.slice A xs.length c, .int .i64 key, .int .i64 to, .int .i64 now, .int .i64 till] w fun e w' => e = .returned (.tuple #[.slice none 0 0, .iface 79 (.pointer (some a1))]) ∧ Below w.heap.size w w' := by
  have HA := Lib.hid (lv_impl B A c xs hl hc w hB h)
  unfold tkGo at hgo
  simp only [Bool.and_eq_true] at hgo
  obtain ⟨hv, hp, ht1, ht2⟩ := hgo
  have ht : (timeOk now && timeOk till) = true := by rw [ht1, ht2]; rfl
  obtain ⟨hl1, hl2⟩ := lval_len hv
  have hat := lof_at hl1 key
  have hlt := lat_lt hl1 key
  obtain ⟨b, off, rfl⟩ := h.some_ (by omega)
  have HC := fun (W : World) (hb : Below w.heap.size w W) => Lib.hid (leaseAt_any B _ c xs (Nat.le_trans hl hc) key W (Nat.le_trans hB hb.size) (h.below (hb.mono hB)))
  have HV := fun (W : World) (hb : Below w.heap.size w W) => Lib.hid ((h.below (hb.mono hB)).at_ hat)
  clear h hat
  generalize lat xs key = n at HC HV hlt
  generalize lof xs key = v at HV hex
  have hex' : now ≤ v.2.2 := by omega
  go_enter Tryd.func18, Tryd.ntmps18
  go_wp2_with fail
  refine (HA.out).mono ?_; rw [hv]; rintro e w1 ⟨rfl, hb⟩
  clear HA
  go_wp2_with (first
    | (go_at_call 28; refine (pos2O hp w1).mono ?_; rintro e w2 ⟨rfl, hb2⟩)
    | (go_at_call 29; refine (time2O ht w2).mono ?_; rintro e w3 ⟨rfl, hb3⟩; have hB3 := below_next (below_next hb hb2) hb3; have HC3 := HC w3 hB3)
    | (go_at_call 26; refine (HC3.out).mono ?_; rintro e w4 ⟨rfl, hb4⟩; have hB4 := below_next hB3 hb4; obtain ⟨q1, q2, q3⟩ := (HV w4 hB4).out; have hg1 := (hs.below hB4).g1))
  go_quiet (fail)
  go_wp2
  go_ret2
  exact ⟨rfl, hB4.os, hB4.tape, hB4.output, hB4.size, hB4.block⟩
theorem seize_done (B : Nat) (A : Option Addr) (c : Nat) (xs : List Tri) (key to now till : Int) (a0 a1 : Addr) (hl : xs.length ≤ c) (hc : c ≤ maxLen) (w : World) (hB : B ≤ w.heap.size) (h : TrisAt w B A xs) (hs : Sent w a0 a1) (hgo : tkGo xs key to now till = true) (hex : (lof xs key).2.2 < now) :
    Calls Tryd.prog 18 #[.slice A xs.length c, .int .i64 key, .int .i64 to, .int .i64 now, .int .i64 till] w fun e w' => ∃ (A' : Option Addr) (c' : Nat), e = .returned (.tuple #[.slice A' xs.length c', .nilIface]) ∧ OwnT w' w.heap.size A' c' (seizeT xs key to till) ∧ Below w.heap.size w w' := by
  have HA := Lib.hid (lv_impl B A c xs hl hc w hB h)
  unfold tkGo at hgo
  simp only [Bool.and_eq_true] at hgo
  obtain ⟨hv, hp, ht1, ht2⟩ := hgo
  have ht : (timeOk now && timeOk till) = true := by rw [ht1, ht2]; rfl
  obtain ⟨hl1, hl2⟩ := lval_len hv
  have hat := lof_at hl1 key
  have hlt := lat_lt hl1 key
  obtain ⟨b, off, rfl⟩ := h.some_ (by omega)
  have HC := fun (W : World) (hb : Below w.heap.size w W) => Lib.hid (leaseAt_any B _ c xs (Nat.le_trans hl hc) key W (Nat.le_trans hB hb.size) (h.below (hb.mono hB)))
  have HV := fun (W : World) (hb : Below w.heap.size w W) => Lib.hid ((h.below (hb.mono hB)).at_ hat)
  have HCL := fun (W : World) (hb : Below w.heap.size w W) => Lib.hid (cloneT_any B _ c xs (by omega) (by omega) W (Nat.le_trans hB hb.size) (h.below (hb.mono hB)))
  have HST := Lib.hid (show seizeT xs key to till = xs.set (lat xs key) ((lof xs key).1, to, till) from rfl)
  clear h
  generalize lat xs key = n at HC HV hlt HST hat
  generalize lof xs key = v at HV hex HST hat
  have hex' : ¬ now ≤ v.2.2 := by omega
  have HAT := Lib.hid hat
  clear hat
  go_enter Tryd.func18, Tryd.ntmps18
  go_wp2_with fail
  refine (HA.out).mono ?_; rw [hv]; rintro e w1 ⟨rfl, hb⟩
  clear HA
  go_wp2_with (first
    | (go_at_call 28; refine (pos2O hp w1).mono ?_; rintro e w2 ⟨rfl, hb2⟩)
    | (go_at_call 29; refine (time2O ht w2).mono ?_; rintro e w3 ⟨rfl, hb3⟩; have hB3 := below_next (below_next hb hb2) hb3; have HC3 := HC w3 hB3)
    | (go_at_call 26; refine (HC3.out).mono ?_; rintro e w4 ⟨rfl, hb4⟩; have hB4 := below_next hB3 hb4; obtain ⟨q1, q2, q3⟩ := (HV w4 hB4).out; have HCL4 := HCL w4 hB4))
  go_wp2_with fail
  refine HCL4.out.mono ?_; rintro e w5 ⟨A5, c5, rfl, ho5, hb5⟩
  obtain ⟨g, rfl⟩ := ho5.some_ (by omega)
  obtain ⟨v1, v2, v3⟩ := v
  obtain ⟨e1, e2, e3⟩ := ho5.at_ HAT.out
  simp only at e1 e2 e3
  have f1 := ho5.free (n * 3 + 1)
  have f2 := ho5.free (n * 3 + 2)
  have hp1 := ho5.put1 HAT.out to
  have hat1 : (xs.set n (v1, to, v3))[n]? = some (v1, to, v3) := List.getElem?_set_self hlt
  have HP := Lib.hid (hp1.put2 hat1 till)
  obtain ⟨k1, k2, k3⟩ := hp1.at_ hat1
  have f3 := hp1.free (n * 3 + 2)
  simp only at k1 k2 k3
  have hgb := ho5.row g rfl
  have hB5 := below_next hB4 hb5
  have hgw : w.heap.size ≤ g := Nat.le_trans hB4.size hgb
  clear HC3 HCL4 ho5 hb5 hp1 hat1 HC HV HCL
  go_wp2
  go_ret2
  refine ⟨_, c5, rfl, ?_, (hB5.setCell (p := ⟨g, n * 3 + 1, none⟩) hgw _).setCell (p := ⟨g, n * 3 + 2, none⟩) hgw _⟩
  rw [HST.out]
  have h := HP.out
  rw [List.set_set] at h
  exact h.base hB4.size
theorem granted_args (A A2 : Option Addr) (n c c2 n2 : Nat) (a0 a1 : Addr) (w : World) (hs : Sent w a0 a1) :
    Calls Tryd.prog 19 #[.slice A n c, .slice A2 n2 c2, .iface 79 (.pointer (some a0))] w fun e w' => e = .returned (.tuple #[.slice none 0 0, .bool false]) ∧ Below w.heap.size w w' := by
  have g0 := hs.g0
  go_enter Tryd.func19, Tryd.ntmps19
  go_wp2_with (go_at_call 31; refine (is_same a0 _).mono ?_; rintro e w9 ⟨rfl, hw9⟩; obtain rfl := hw9.symm)
  go_ret2
  exact ⟨rfl, by first | exact Below.refl _ _ | exact below_draw ⟨_, rfl⟩⟩
theorem granted_ref (B : Nat) (A A2 : Option Addr) (c c2 n2 : Nat) (xs : List Tri) (a0 a1 : Addr) (hl1 : 1 ≤ xs.length) (hl2 : xs.length ≤ 12) (w : World) (hB : B ≤ w.heap.size) (h : TrisAt w B A xs) (hs : Sent w a0 a1) :
    Calls Tryd.prog 19 #[.slice A xs.length c, .slice A2 n2 c2, .iface 79 (.pointer (some a1))] w fun e w' => ∃ (A' : Option Addr) (c' : Nat), e = .returned (.tuple #[.slice A' xs.length c', .bool false]) ∧ OwnT w' w.heap.size A' c' xs ∧ Below w.heap.size w w' := by
  have g0 := hs.g0
  have g1 := hs.g1
  obtain ⟨d0, t0, b0⟩ := hs.b0
  obtain ⟨d1, t1, b1⟩ := hs.b1
  have HO := Lib.hid (is_other a1 a0 d1 d0 t1 t0 w hs.ne.symm b1 b0)
  have HC := Lib.hid (cloneT_any B A c xs (by omega) (by omega) w hB h)
  clear b0 b1 h
  go_enter Tryd.func19, Tryd.ntmps19
  go_wp2_with (go_at_call 31; (first | (with_reducible refine (HO.out).mono ?_) | (with_reducible refine (is_same a1 _).mono ?_)); rintro e w9 ⟨rfl, hw9⟩; obtain rfl := hw9.symm)
  refine (HC.out).mono ?_; rintro e w2 ⟨A2', c2', rfl, ho, hb⟩
  go_wp2
  go_ret2
  exact ⟨_, _, rfl, ho, hb⟩
theorem granted_nil (A A2 : Option Addr) (n c c2 n2 : Nat) (a0 a1 : Addr) (w : World) (hs : Sent w a0 a1) :
    Calls Tryd.prog 19 #[.slice A n c, .slice A2 n2 c2, .nilIface] w fun e w' => e = .returned (.tuple #[.slice A2 n2 c2, .bool true]) ∧ w' = w := by
  have g0 := hs.g0
  have g1 := hs.g1
  go_enter Tryd.func19, Tryd.ntmps19
  go_wp2_with (go_at_call 31; (first | (with_reducible refine (is_nil a0 _).mono ?_) | (with_reducible refine (is_nil a1 _).mono ?_)); rintro e w9 ⟨rfl, hw9⟩; obtain rfl := hw9.symm)
  go_ret2
  exact ⟨rfl, rfl⟩
theorem tk_impl (B : Nat) (A : Option Addr) (c : Nat) (xs : List Tri) (key to now till : Int) (a0 a1 : Addr) (hl : xs.length ≤ c) (hc : c ≤ maxLen) (w : World) (hB : B ≤ w.heap.size) (h : TrisAt w B A xs) (hs : Sent w a0 a1) :
    Calls Tryd.prog 7 #[.slice A xs.length c, .int .i64 key, .int .i64 to, .int .i64 now, .int .i64 till] w (TkRet w (tkL xs key to now till) (tkB xs key to now till)) := by
  cases hgo : tkGo xs key to now till
  · have HL := Lib.hid (show tkL xs key to now till = [] from by unfold tkL; rw [hgo]; rfl)
    have HN := Lib.hid (show tkB xs key to now till = false from by unfold tkB; rw [hgo]; rfl)
    have HS := Lib.hid (seize_args B A c xs key to now till a0 a1 hl hc w hB h hs hgo)
    clear h
    go_enter Tryd.func7, Tryd.ntmps7
    go_wp2_with fail
    refine (HS.out).mono ?_; rintro e w1 ⟨rfl, hb⟩
    have HG := Lib.hid (granted_args A none xs.length c 0 0 a0 a1 w1 (hs.below hb))
    go_wp2_with fail
    refine (HG.out).mono ?_; rintro e w2 ⟨rfl, hb2⟩
    go_wp2
    go_ret2
    exact ⟨none, 0, ret_rowB (by rw [HL.out]; rfl) HN.out.symm, by rw [HL.out]; exact OwnT.none_ _ _, below_next hb hb2⟩
  · have hlen : 1 ≤ xs.length ∧ xs.length ≤ 12 := by
      have h2 := hgo
      unfold tkGo at h2
      simp only [Bool.and_eq_true] at h2
      exact lval_len h2.1
    by_cases hex : (lof xs key).2.2 < now
    · have HL := Lib.hid (show tkL xs key to now till = seizeT xs key to till from by unfold tkL; rw [if_pos hgo, if_pos hex])
      have HN := Lib.hid (show tkB xs key to now till = true from by unfold tkB; rw [hgo, decide_eq_true hex]; rfl)
      have HSL := Lib.hid (seize_len xs key to till)
      have HS := Lib.hid (seize_done B A c xs key to now till a0 a1 hl hc w hB h hs hgo hex)
      clear h hex
      go_enter Tryd.func7, Tryd.ntmps7
      go_wp2_with fail
      refine (HS.out).mono ?_; rintro e w1 ⟨A1, c1, rfl, ho, hb⟩
      have HG := Lib.hid (granted_nil A A1 xs.length c c1 xs.length a0 a1 w1 (hs.below hb))
      go_wp2_with fail
      refine (HG.out).mono ?_; rintro e w2 ⟨rfl, hw2⟩
      obtain rfl := hw2.symm
      go_wp2
      go_ret2
      exact ⟨A1, c1, ret_rowB (by rw [HL.out, HSL.out]) HN.out.symm, by rw [HL.out]; exact ho, hb⟩
    · have HL := Lib.hid (show tkL xs key to now till = xs from by unfold tkL; rw [if_pos hgo, if_neg hex])
      have HN := Lib.hid (show tkB xs key to now till = false from by unfold tkB; rw [hgo, decide_eq_false hex]; rfl)
      have HS := Lib.hid (seize_refused B A c xs key to now till a0 a1 hl hc w hB h hs hgo hex)
      have HG := fun (W : World) (hb : Below w.heap.size w W) => Lib.hid (granted_ref B A none c 0 0 xs a0 a1 hlen.1 hlen.2 W (Nat.le_trans hB hb.size) (h.below (hb.mono hB)) (hs.below hb))
      clear h hex
      go_enter Tryd.func7, Tryd.ntmps7
      go_wp2_with fail
      refine (HS.out).mono ?_; rintro e w1 ⟨rfl, hb⟩
      have HG1 := HG w1 hb
      clear HG
      go_wp2_with fail
      refine (HG1.out).mono ?_; rintro e w2 ⟨A2, c2, rfl, ho2, hb2⟩
      go_wp2
      go_ret2
      exact ⟨A2, c2, ret_rowB (by rw [HL.out]) HN.out.symm, by rw [HL.out]; exact ho2.base hb.size, below_next hb hb2⟩
theorem sset_any (B : Nat) (A : Option Addr) (c : Nat) (xs : List Tri) (k : Nat) (x1 x2 x3 : Int) (hk : k < xs.length) (hl : xs.length ≤ 1000) (w : World) (hB : B ≤ w.heap.size) (h : TrisAt w B A xs) :
    Calls Tryd.prog 24 #[.slice A xs.length c, .int .i64 k, .agg #[.int .i64 x1, .int .i64 x2, .int .i64 x3]] w fun e w' => ∃ (A' : Option Addr) (c' : Nat), e = .returned (.slice A' xs.length c') ∧ OwnT w' w.heap.size A' c' (xs.set k (x1, x2, x3)) ∧ Below w.heap.size w w' := by
  obtain ⟨i0, hi, hz0, hz1, hz2⟩ := info_parts triInfo
  have HI := Lib.hid hi
  have HZ0 := Lib.hid hz0
  have HZ1 := Lib.hid hz1
  have HZ2 := Lib.hid hz2
  clear hi hz0 hz1 hz2
  have hbx : Below w.heap.size w (w.alloc (.cells #[.int .i64 x1, .int .i64 x2, .int .i64 x3] 34 (0, 0))) := (Below.refl _ _).alloc (Nat.le_refl _) _
  have hbz : Below w.heap.size w ((w.alloc (.cells #[.int .i64 x1, .int .i64 x2, .int .i64 x3] 34 (0, 0))).alloc (.cells #[] 34)) := hbx.alloc hbx.size _
  have he := OwnT.empty (w.alloc (.cells #[.int .i64 x1, .int .i64 x2, .int .i64 x3] 34 (0, 0))) (base := w.heap.size + 1) (by simp)
  rw [show (w.alloc (.cells #[.int .i64 x1, .int .i64 x2, .int .i64 x3] 34 (0, 0))).heap.size = w.heap.size + 1 from by simp] at he
  have HE := Lib.hid he
  have HXX := Lib.hid (show ((w.alloc (.cells #[.int .i64 x1, .int .i64 x2, .int .i64 x3] 34 (0, 0))).alloc (.cells #[] 34)).heap[w.heap.size]? = some (.cells #[.int .i64 x1, .int .i64 x2, .int .i64 x3] 34 (0, 0)) from (Below.heap_alloc _ _ _ (by simp)).trans (alloc_top w _))
  have HS := Lib.hid ((h.below (hbz.mono hB)).src (by omega))
  have HBZ := Lib.hid hbz
  clear h hbz hbx he
  go_enter Tryd.func24, Tryd.ntmps24
  go_wp2_with (at_builtin
               refine list_appT rfl Tryd.underlying23 HI.out HZ0.out HZ1.out HZ2.out (.tmp 8) (.tmp 9) rfl (xs := []) rfl rfl HE.out rfl HS.out (by simp <;> omega) (by simp <;> omega) ?_
               intro A2 c2 w3 ho hg3 hat
               have hb3 : Below w.heap.size w w3 := Below.grown HBZ.out hg3 (by simp <;> omega) (fun k e => by simp at e; omega)
               have hX := (hg3.block w.heap.size (by simp; omega) (by simp)).trans HXX.out
               have ho' : OwnT w3 (w.heap.size + 1) A2 c2 xs := ho
               obtain ⟨e1, e2, e3⟩ := cells3 hX
               obtain ⟨g, rfl⟩ := ho'.some_ (by omega)
               have hgb := ho'.row g rfl
               obtain ⟨t, ht⟩ : ∃ t, xs[k]? = some t := ⟨_, List.getElem?_eq_getElem hk⟩
               obtain ⟨t1, t2, t3⟩ := t
               obtain ⟨q1, q2, q3⟩ := ho'.at_ ht
               simp only at q1 q2 q3
               have f1 := ho'.free (k * 3)
               have f2 := ho'.free (k * 3 + 1)
               have f3 := ho'.free (k * 3 + 2)
               have HP := Lib.hid (ho'.put3 ht x1 x2 x3)
               have hkl : (k : Int) < (xs.length : Int) := by omega
               clear HE HXX HS HBZ hg3 hat ho ho' hX ht)
  go_ret
  exact ⟨_, c2, rfl, HP.out.base (by omega), ((hb3.setCell (p := ⟨g, k * 3, none⟩) (by simp only; omega) _).setCell (p := ⟨g, k * 3 + 1, none⟩) (by simp only; omega) _).setCell (p := ⟨g, k * 3 + 2, none⟩) (by simp only; omega) _⟩
theorem tk_spec (B : Nat) (A : Option Addr) (c : Nat) (xs : List Tri) (key to now till : Int) (hl : xs.length ≤ c) (hc : c ≤ maxLen) (w : World) (hB : B ≤ w.heap.size) (h : TrisAt w B A xs) :
    Calls Tryd.prog 8 #[.slice A xs.length c, .int .i64 key, .int .i64 to, .int .i64 now, .int .i64 till] w (TkRet w (tkL xs key to now till) (tkB xs key to now till)) := by
  have HA := Lib.hid (lv_spec B A c xs hl hc w hB h)
  cases hv : lval xs
  · have hgo : tkGo xs key to now till = false := by unfold tkGo; rw [allPos2, hv]; simp
    have HL := Lib.hid (show tkL xs key to now till = [] from by unfold tkL; rw [hgo]; rfl)
    have HN := Lib.hid (show tkB xs key to now till = false from by unfold tkB; rw [hgo]; rfl)
    clear h hgo
    go_enter Tryd.func8, Tryd.ntmps8
    go_wp2_with fail
    refine (HA.out).mono ?_; rw [hv]; rintro e w1 ⟨rfl, hb⟩
    go_wp2
    go_ret2
    rw [HL.out, HN.out]
    exact ⟨_, 0, rfl, OwnT.empty _ hb.size, hb.alloc hb.size _⟩
  cases hk : pos key
  · have hgo : tkGo xs key to now till = false := by unfold tkGo; rw [allPos2, hk]; simp
    have HL := Lib.hid (show tkL xs key to now till = [] from by unfold tkL; rw [hgo]; rfl)
    have HN := Lib.hid (show tkB xs key to now till = false from by unfold tkB; rw [hgo]; rfl)
    clear h hgo
    go_enter Tryd.func8, Tryd.ntmps8
    go_wp2_with fail
    refine (HA.out).mono ?_; rw [hv]; rintro e w1 ⟨rfl, hb⟩
    go_wp2_with (first
      | (go_at_call 21; (first | (with_reducible refine (point_val hk _).mono ?_)); rintro e w9 ⟨rfl, hw9⟩; obtain rfl := hw9.symm))
    go_ret2
    rw [HL.out, HN.out]
    exact ⟨_, 0, rfl, OwnT.empty _ hb.size, hb.alloc hb.size _⟩
  cases ho : pos to
  · have hgo : tkGo xs key to now till = false := by unfold tkGo; rw [allPos2, ho]; simp
    have HL := Lib.hid (show tkL xs key to now till = [] from by unfold tkL; rw [hgo]; rfl)
    have HN := Lib.hid (show tkB xs key to now till = false from by unfold tkB; rw [hgo]; rfl)
    clear h hgo
    go_enter Tryd.func8, Tryd.ntmps8
    go_wp2_with fail
    refine (HA.out).mono ?_; rw [hv]; rintro e w1 ⟨rfl, hb⟩
    go_wp2_with (first
      | (go_at_call 21; (first | (with_reducible refine (point_val hk _).mono ?_) | (with_reducible refine (point_val ho _).mono ?_)); rintro e w9 ⟨rfl, hw9⟩; obtain rfl := hw9.symm))
    go_ret2
    rw [HL.out, HN.out]
    exact ⟨_, 0, rfl, OwnT.empty _ hb.size, hb.alloc hb.size _⟩
  cases hn : timeOk now
  · have hgo : tkGo xs key to now till = false := by unfold tkGo; rw [allPos2, hn]; simp
    have HL := Lib.hid (show tkL xs key to now till = [] from by unfold tkL; rw [hgo]; rfl)
    have HN := Lib.hid (show tkB xs key to now till = false from by unfold tkB; rw [hgo]; rfl)
    clear h hgo
    go_enter Tryd.func8, Tryd.ntmps8
    go_wp2_with fail
    refine (HA.out).mono ?_; rw [hv]; rintro e w1 ⟨rfl, hb⟩
    go_wp2_with (first
      | (go_at_call 21; (first | (with_reducible refine (point_val hk _).mono ?_) | (with_reducible refine (point_val ho _).mono ?_)); rintro e w9 ⟨rfl, hw9⟩; obtain rfl := hw9.symm)
      | (go_at_call 22; (first | (with_reducible refine (stime_val hn _).mono ?_)); rintro e w9 ⟨rfl, hw9⟩; obtain rfl := hw9.symm))
    go_ret2
    rw [HL.out, HN.out]
    exact ⟨_, 0, rfl, OwnT.empty _ hb.size, hb.alloc hb.size _⟩
  cases hm : timeOk till
  · have hgo : tkGo xs key to now till = false := by unfold tkGo; rw [allPos2, hm]; simp
    have HL := Lib.hid (show tkL xs key to now till = [] from by unfold tkL; rw [hgo]; rfl)
    have HN := Lib.hid (show tkB xs key to now till = false from by unfold tkB; rw [hgo]; rfl)
    clear h hgo
    go_enter Tryd.func8, Tryd.ntmps8
    go_wp2_with fail
    refine (HA.out).mono ?_; rw [hv]; rintro e w1 ⟨rfl, hb⟩
    go_wp2_with (first
      | (go_at_call 21; (first | (with_reducible refine (point_val hk _).mono ?_) | (with_reducible refine (point_val ho _).mono ?_)); rintro e w9 ⟨rfl, hw9⟩; obtain rfl := hw9.symm)
      | (go_at_call 22; (first | (with_reducible refine (stime_val hn _).mono ?_) | (with_reducible refine (stime_val hm _).mono ?_)); rintro e w9 ⟨rfl, hw9⟩; obtain rfl := hw9.symm))
    go_ret2
    rw [HL.out, HN.out]
    exact ⟨_, 0, rfl, OwnT.empty _ hb.size, hb.alloc hb.size _⟩
  have hgo : tkGo xs key to now till = true := by unfold tkGo; rw [allPos2, hv, hk, ho, hn, hm]; rfl
  obtain ⟨hl1, hl2⟩ := lval_len hv
  have hat := lof_at hl1 key
  have hlt := lat_lt hl1 key
  obtain ⟨b, off, rfl⟩ := h.some_ (by omega)
  have HC := fun (W : World) (hb : Below w.heap.size w W) => Lib.hid (sAt_any B _ c xs (Nat.le_trans hl hc) key W (h.below (hb.mono hB)))
  have HV := fun (W : World) (hb : Below w.heap.size w W) => Lib.hid ((h.below (hb.mono hB)).at_ hat)
  by_cases hex : (lof xs key).2.2 < now
  · have HL := Lib.hid (show tkL xs key to now till = xs.set (lat xs key) ((lof xs key).1, to, till) from by unfold tkL; rw [if_pos hgo, if_pos hex]; rfl)
    have HN := Lib.hid (show tkB xs key to now till = true from by unfold tkB; rw [hgo, decide_eq_true hex]; rfl)
    have HSS := fun (W : World) (hb : Below w.heap.size w W) => Lib.hid (sset_any B _ c xs (lat xs key) (lof xs key).1 to till hlt (by omega) W (Nat.le_trans hB hb.size) (h.below (hb.mono hB)))
    clear h hat
    generalize lat xs key = n at HC HV hlt HL HSS
    generalize lof xs key = v at HV hex HL HSS
    have hex' : ¬ now ≤ v.2.2 := by omega
    go_enter Tryd.func8, Tryd.ntmps8
    go_wp2_with fail
    refine (HA.out).mono ?_; rw [hv]; rintro e w1 ⟨rfl, hb⟩
    clear HA
    go_wp2_with (first
      | (go_at_call 21; (first | (with_reducible refine (point_val hk _).mono ?_) | (with_reducible refine (point_val ho _).mono ?_)); rintro e w9 ⟨rfl, hw9⟩; obtain rfl := hw9.symm)
      | (go_at_call 22; (first | (with_reducible refine (stime_val hn _).mono ?_) | (with_reducible refine (stime_val hm _).mono ?_)); rintro e w9 ⟨rfl, hw9⟩; obtain rfl := hw9.symm)
      | (go_at_call 23; refine ((HC w1 hb).out).mono ?_; rintro e w4 ⟨rfl, hd4⟩; have hB4 := below_next hb (below_draw hd4); obtain ⟨q1, q2, q3⟩ := (HV w4 hB4).out; have HS4 := HSS w4 hB4)
      | (go_at_call 24; refine (HS4.out).mono ?_; rintro e w5 ⟨A5, c5, rfl, ho5, hb5⟩))
    go_ret2
    exact ⟨A5, c5, ret_rowB (by rw [HL.out, List.length_set]) HN.out.symm, by rw [HL.out]; exact ho5.base hB4.size, below_next hB4 hb5⟩
  · have HL := Lib.hid (show tkL xs key to now till = xs from by unfold tkL; rw [if_pos hgo, if_neg hex])
    have HN := Lib.hid (show tkB xs key to now till = false from by unfold tkB; rw [hgo, decide_eq_false hex]; rfl)
    have HSRC := fun (W : World) (hb : Below w.heap.size w W) => Lib.hid ((h.below (hb.mono hB)).src (by omega))
    clear h hat
    generalize lat xs key = n at HC HV hlt
    generalize lof xs key = v at HV hex
    have hex' : now ≤ v.2.2 := by omega
    obtain ⟨i0, hi, hz0, hz1, hz2⟩ := info_parts triInfo
    have HI := Lib.hid hi
    have HZ0 := Lib.hid hz0
    have HZ1 := Lib.hid hz1
    have HZ2 := Lib.hid hz2
    clear hi hz0 hz1 hz2
    go_enter Tryd.func8, Tryd.ntmps8
    go_wp2_with fail
    refine (HA.out).mono ?_; rw [hv]; rintro e w1 ⟨rfl, hb⟩
    clear HA
    go_wp2_with (first
      | (go_at_call 21; (first | (with_reducible refine (point_val hk _).mono ?_) | (with_reducible refine (point_val ho _).mono ?_)); rintro e w9 ⟨rfl, hw9⟩; obtain rfl := hw9.symm)
      | (go_at_call 22; (first | (with_reducible refine (stime_val hn _).mono ?_) | (with_reducible refine (stime_val hm _).mono ?_)); rintro e w9 ⟨rfl, hw9⟩; obtain rfl := hw9.symm)
      | (go_at_call 23; refine ((HC w1 hb).out).mono ?_; rintro e w4 ⟨rfl, hd4⟩; have hB4 := below_next hb (below_draw hd4); obtain ⟨q1, q2, q3⟩ := (HV w4 hB4).out; have HE4 := Lib.hid (OwnT.empty w4 (Nat.le_refl w4.heap.size)); have hbz : Below w.heap.size w (w4.alloc (.cells #[] 34)) := hB4.alloc hB4.size _; have HS4 := HSRC _ hbz)
      | (at_builtin; refine list_appT rfl Tryd.underlying23 HI.out HZ0.out HZ1.out HZ2.out (.tmp 47) (.tmp 48) rfl (xs := []) rfl rfl HE4.out rfl HS4.out (by simp; omega) (by simp) ?_; intro A5 c5 w5 ho5 hg5 hat5))
    have hsz := hB4.size
    have hb5 : Below w.heap.size w w5 := Below.grown hbz hg5 (by simp; omega) (fun k e => by simp at e; omega)
    go_ret2
    exact ⟨A5, c5, ret_rowB (by first | (rw [HL.out]; done) | (rw [HL.out]; rfl)) HN.out.symm, by rw [HL.out]; exact OwnT.base ho5 hB4.size, hb5⟩
end Go.Proofs.YtkjolmbcafonaaaDoor
