/- Walks: RegisterLatest of the implementation and of the reference. -/
import Derived.Test.YtnfpgipbgillaaaLatS
namespace Go.Proofs.Ytnfpgipbgillaaa
open Go.RowKit
set_option maxHeartbeats 1000000
set_option linter.unusedVariables false
def rlOk (xs : List Tri) (ss : List Int) : Bool := regVal xs && mostOk xs.length ss
def rlVal (xs : List Tri) (ss : List Int) : Tri := if rlOk xs ss = true then latVal xs ss else (0, 0, 0)
theorem asked_any (B : Nat) (A A' : Option Addr) (c c' : Nat) (xs : List Tri) (ss : List Int) (hx : xs.length ≤ c) (hc : c ≤ maxLen) (hs : ss.length ≤ 1048577) (w : World) (hB : B ≤ w.heap.size) (h : TrisAt w B A xs) (h' : NumsAt .i64 w B A' ss) :
    Calls Try.prog 33 #[.slice A xs.length c, .slice A' ss.length c'] w fun e w' => e = .returned (.bool (rlOk xs ss)) ∧ Below w.heap.size w w' := by
  have H1 := Lib.hid (rv_impl B A c xs hx hc w hB h)
  have H2 := fun (W : World) (hb : Below w.heap.size w W) => Lib.hid (most_impl B A' c' xs.length ss hs (Nat.le_trans hx hc) W (h'.below (hb.mono hB)))
  have H := Lib.hid (show rlOk xs ss = (regVal xs && mostOk xs.length ss) from rfl)
  clear h h'
  cases hr : regVal xs
  · go_enter Try.func33, Try.ntmps33
    go_wp2_with (go_at_call 12; refine (H1.out).mono ?_; rw [hr]; rintro e w1 ⟨rfl, hb⟩)
    go_ret
    exact ⟨ret_bool (by rw [H.out, hr]; rfl), hb⟩
  · go_enter Try.func33, Try.ntmps33
    go_wp2_with (first
      | (go_at_call 12; refine (H1.out).mono ?_; rw [hr]; rintro e w1 ⟨rfl, hb⟩; have H3 := H2 w1 hb)
      | (go_at_call 43; refine (H3.out).mono ?_; rintro e w' ⟨rfl, rfl⟩))
    go_ret
    exact ⟨ret_bool (by rw [H.out, hr]; rfl), hb⟩
theorem most_pos {n : Nat} {ss : List Int} (h : mostOk n ss = true) : 0 < ss.length := by
  unfold mostOk at h; simp only [Bool.and_eq_true, decide_eq_true_eq] at h; omega
theorem most_set {n : Nat} {ss : List Int} (h : mostOk n ss = true) : setOk n ss = true := by
  unfold mostOk at h; simp only [Bool.and_eq_true] at h; exact h.1
def RlRet (w : World) (xs : List Tri) (ss : List Int) (e : Ending) (w' : World) : Prop :=
  e = .returned (.tuple #[.agg #[.int .i64 (rlVal xs ss).1, .int .i64 (rlVal xs ss).2.1, .int .i64 (rlVal xs ss).2.2], .bool (rlOk xs ss)]) ∧ Below w.heap.size w w'
theorem below_set3 {w w' : World} (h : Below w.heap.size w w') (a b c : Value) : Below w.heap.size w (((w'.setCell ⟨w.heap.size, 0, none⟩ a).setCell ⟨w.heap.size, 1, none⟩ b).setCell ⟨w.heap.size, 2, none⟩ c) :=
  ((h.setCell (p := ⟨w.heap.size, 0, none⟩) (Nat.le_refl _) _).setCell (p := ⟨w.heap.size, 1, none⟩) (Nat.le_refl _) _).setCell (p := ⟨w.heap.size, 2, none⟩) (Nat.le_refl _) _
theorem rl_impl (B : Nat) (A A' : Option Addr) (c c' : Nat) (xs : List Tri) (ss : List Int) (hx : xs.length ≤ c) (hc : c ≤ maxLen) (hs : ss.length ≤ 1048577) (w : World) (hB : B ≤ w.heap.size) (h : TrisAt w B A xs) (h' : NumsAt .i64 w B A' ss) :
    Calls Try.prog 17 #[.slice A xs.length c, .slice A' ss.length c'] w (RlRet w xs ss) := by
  have hbz : Below w.heap.size w (w.alloc (.cells #[.int .i64 0, .int .i64 0, .int .i64 0] 32 (0, 0))) := (Below.refl _ _).alloc (Nat.le_refl _) _
  have HA := Lib.hid (asked_any B A A' c c' xs ss hx hc hs (w.alloc (.cells #[.int .i64 0, .int .i64 0, .int .i64 0] 32 (0, 0))) (by simp; omega) (h.below (hbz.mono hB)) (h'.below (hbz.mono hB)))
  have H0 := Lib.hid (alloc_top w (.cells #[.int .i64 0, .int .i64 0, .int .i64 0] 32 (0, 0)))
  cases hr : rlOk xs ss
  · have H := Lib.hid (show rlVal xs ss = (0, 0, 0) from by unfold rlVal; rw [hr]; rfl)
    clear h h'
    go_enter Try.func17, Try.ntmps17
    go_wp2_with fail
    refine (HA.out).mono ?_; rw [hr]; rintro e w1 ⟨rfl, hb⟩
    have ht := (hb.block w.heap.size (by simp)).trans H0.out
    have hB1 := below_next hbz hb
    obtain ⟨c1, c2, c3⟩ := cells3 ht
    have f1 := free3 ht 0
    have f2 := free3 ht 1
    have f3 := free3 ht 2
    have HG := Lib.hid (And.intro c1 (And.intro c2 c3))
    clear ht hb hbz HA H0
    go_wp2_with fail
    refine bodyPost_ret (v := .tuple #[.agg #[.int .i64 0, .int .i64 0, .int .i64 0], .bool false]) (by simp [results, Try.results17, go_sem, HG.out.1, HG.out.2.1, HG.out.2.2]) rfl ⟨by rw [H.out, hr], below_set3 hB1 _ _ _⟩
  · have H := Lib.hid (show rlVal xs ss = latVal xs ss from by unfold rlVal; rw [if_pos hr])
    have hm : mostOk xs.length ss = true := by unfold rlOk at hr; simp only [Bool.and_eq_true] at hr; exact hr.2
    have h0 := most_pos hm
    have hset := most_set hm
    have HL := fun (W : World) (hb : Below w.heap.size w W) => Lib.hid (lat_impl B A A' c c' xs ss (Nat.le_trans hx hc) (by unfold maxLen; omega) h0 hset W (Nat.le_trans hB hb.size) (h.below (hb.mono hB)) (h'.below (hb.mono hB)))
    clear h h' hm h0 hset
    go_enter Try.func17, Try.ntmps17
    go_wp2_with fail
    refine (HA.out).mono ?_; rw [hr]; rintro e w1 ⟨rfl, hb⟩
    have ht := (hb.block w.heap.size (by simp)).trans H0.out
    have hB1 := below_next hbz hb
    have HL1 := HL w1 hB1
    have HT := Lib.hid ht
    clear ht hb hbz HA H0 HL
    go_wp2_with fail
    refine (HL1.out).mono ?_; rintro e w2 ⟨rfl, hb2⟩
    have ht := (hb2.block w.heap.size (Array.getElem?_eq_some_iff.1 HT.out).1).trans HT.out
    have hB2 := below_next hB1 hb2
    obtain ⟨c1, c2, c3⟩ := cells3 ht
    have f1 := free3 ht 0
    have f2 := free3 ht 1
    have f3 := free3 ht 2
    have HG := Lib.hid (And.intro c1 (And.intro c2 c3))
    clear ht hb2 HL1 HT
    generalize latVal xs ss = v at H ⊢
    go_wp2_with fail
    refine bodyPost_ret (v := .tuple #[.agg #[.int .i64 v.1, .int .i64 v.2.1, .int .i64 v.2.2], .bool true]) (by simp [results, Try.results17, go_sem, HG.out.1, HG.out.2.1, HG.out.2.2]) rfl ⟨by rw [H.out, hr], below_set3 hB2 _ _ _⟩
theorem rl_spec (B : Nat) (A A' : Option Addr) (c c' : Nat) (xs : List Tri) (ss : List Int) (hx : xs.length ≤ c) (hc : c ≤ maxLen) (hs : ss.length ≤ 1048577) (w : World) (hB : B ≤ w.heap.size) (h : TrisAt w B A xs) (h' : NumsAt .i64 w B A' ss) :
    Calls Try.prog 15 #[.slice A xs.length c, .slice A' ss.length c'] w (RlRet w xs ss) := by
  have hbz : Below w.heap.size w (w.alloc (.cells #[.int .i64 0, .int .i64 0, .int .i64 0] 32 (0, 0))) := (Below.refl _ _).alloc (Nat.le_refl _) _
  have HA := Lib.hid (rv_spec B A c xs hx hc (w.alloc (.cells #[.int .i64 0, .int .i64 0, .int .i64 0] 32 (0, 0))) (by simp; omega) (h.below (hbz.mono hB)))
  have H0 := Lib.hid (alloc_top w (.cells #[.int .i64 0, .int .i64 0, .int .i64 0] 32 (0, 0)))
  have HM := fun (W : World) (hb : Below w.heap.size w W) => Lib.hid (most_spec B A' c' xs.length ss hs (Nat.le_trans hx hc) W (h'.below (hb.mono hB)))
  have hxm : xs.length ≤ maxLen := Nat.le_trans hx hc
  unfold maxLen at hxm
  cases hv : regVal xs
  · have hr : rlOk xs ss = false := by unfold rlOk; rw [hv]; rfl
    have H := Lib.hid (show rlVal xs ss = (0, 0, 0) from by unfold rlVal; rw [hr]; rfl)
    clear h h'
    go_enter Try.func15, Try.ntmps15
    go_wp2_with fail
    refine (HA.out).mono ?_; rw [hv]; rintro e w1 ⟨rfl, hb⟩
    have ht := (hb.block w.heap.size (by simp)).trans H0.out
    have hB1 := below_next hbz hb
    obtain ⟨c1, c2, c3⟩ := cells3 ht
    have f1 := free3 ht 0
    have f2 := free3 ht 1
    have f3 := free3 ht 2
    have HG := Lib.hid (And.intro c1 (And.intro c2 c3))
    clear ht hb hbz HA H0
    go_wp2_with fail
    refine bodyPost_ret (v := .tuple #[.agg #[.int .i64 0, .int .i64 0, .int .i64 0], .bool false]) (by simp [results, Try.results15, go_sem, HG.out.1, HG.out.2.1, HG.out.2.2]) rfl ⟨by rw [H.out, hr], below_set3 hB1 _ _ _⟩
  cases hm : mostOk xs.length ss
  · have hr : rlOk xs ss = false := by unfold rlOk; rw [hv, hm]; rfl
    have H := Lib.hid (show rlVal xs ss = (0, 0, 0) from by unfold rlVal; rw [hr]; rfl)
    clear h h'
    go_enter Try.func15, Try.ntmps15
    go_wp2_with fail
    refine (HA.out).mono ?_; rw [hv]; rintro e w1 ⟨rfl, hb⟩
    have ht := (hb.block w.heap.size (by simp)).trans H0.out
    have hB1 := below_next hbz hb
    have HM1 := HM w1 hB1
    have HT := Lib.hid ht
    clear ht hb hbz HA H0 HM
    go_wp2_with fail
    refine (HM1.out).mono ?_; rw [hm]; rintro e w2 ⟨rfl, hd2⟩
    have hb2 := below_draw hd2
    have ht := (hb2.block w.heap.size (Array.getElem?_eq_some_iff.1 HT.out).1).trans HT.out
    have hB2 := below_next hB1 hb2
    obtain ⟨c1, c2, c3⟩ := cells3 ht
    have f1 := free3 ht 0
    have f2 := free3 ht 1
    have f3 := free3 ht 2
    have HG := Lib.hid (And.intro c1 (And.intro c2 c3))
    clear ht hb2 hd2 HM1 HT
    go_wp2_with fail
    refine bodyPost_ret (v := .tuple #[.agg #[.int .i64 0, .int .i64 0, .int .i64 0], .bool false]) (by simp [results, Try.results15, go_sem, HG.out.1, HG.out.2.1, HG.out.2.2]) rfl ⟨by rw [H.out, hr], below_set3 hB2 _ _ _⟩
  · have hr : rlOk xs ss = true := by unfold rlOk; rw [hv, hm]; rfl
    have H := Lib.hid (show rlVal xs ss = latVal xs ss from by unfold rlVal; rw [if_pos hr])
    have h0 := most_pos hm
    have hset := most_set hm
    have HL := fun (W : World) (hb : Below w.heap.size w W) => Lib.hid (lat_spec B A A' c c' xs ss (Nat.le_trans hx hc) (by unfold maxLen; omega) h0 hset W (Nat.le_trans hB hb.size) (h.below (hb.mono hB)) (h'.below (hb.mono hB)))
    clear h h' h0 hset
    go_enter Try.func15, Try.ntmps15
    go_wp2_with fail
    refine (HA.out).mono ?_; rw [hv]; rintro e w1 ⟨rfl, hb⟩
    have ht := (hb.block w.heap.size (by simp)).trans H0.out
    have hB1 := below_next hbz hb
    have HM1 := HM w1 hB1
    have HT := Lib.hid ht
    clear ht hb hbz HA H0 HM
    go_wp2_with fail
    refine (HM1.out).mono ?_; rw [hm]; rintro e w2 ⟨rfl, hd2⟩
    have hb2 := below_draw hd2
    have HT2 := Lib.hid ((hb2.block w.heap.size (Array.getElem?_eq_some_iff.1 HT.out).1).trans HT.out)
    have hB2 := below_next hB1 hb2
    have HL1 := HL w2 hB2
    clear hb2 hd2 HM1 HT HL
    go_wp2_with fail
    refine (HL1.out).mono ?_; rintro e w3 ⟨rfl, hb3⟩
    have ht := (hb3.block w.heap.size (Array.getElem?_eq_some_iff.1 HT2.out).1).trans HT2.out
    have hB3 := below_next hB2 hb3
    obtain ⟨c1, c2, c3⟩ := cells3 ht
    have f1 := free3 ht 0
    have f2 := free3 ht 1
    have f3 := free3 ht 2
    have HG := Lib.hid (And.intro c1 (And.intro c2 c3))
    clear ht hb3 HL1 HT2
    generalize latVal xs ss = v at H ⊢
    go_wp2_with fail
    refine bodyPost_ret (v := .tuple #[.agg #[.int .i64 v.1, .int .i64 v.2.1, .int .i64 v.2.2], .bool true]) (by simp [results, Try.results15, go_sem, HG.out.1, HG.out.2.1, HG.out.2.2]) rfl ⟨by rw [H.out, hr], below_set3 hB3 _ _ _⟩
end Go.Proofs.Ytnfpgipbgillaaa
