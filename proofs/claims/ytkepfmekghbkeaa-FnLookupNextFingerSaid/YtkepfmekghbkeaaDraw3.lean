/- Walks: the draws of nodes (l91Good, l91Nodes and what is drawn by them): a list of numbers of the call's own; nothing that was there before turns. -/
import Derived.Test.YtkepfmekghbkeaaDraw2
import Derived.Test.YtkepfmekghbkeaaApp
import Derived.Maps.AppendAt
import Derived.Deep.RegionLaw
import Derived.Deep.AppendLies
import Derived.Deep.DeepCutAuto
namespace Go.Proofs.Ytkepfmekghbkeaa
open Go.RowKit
set_option maxHeartbeats 400000
set_option linter.unusedVariables false
/-- A place that is free is reached upward within 64 steps. -/
theorem free_of (f : Nat → Int) : ∀ (n : Nat) (l : List Int), l.length ≤ n → (∀ i j, i ≤ n → j ≤ n → f i = f j → i = j) → ∃ d, d ≤ n ∧ f d ∉ l
  | 0, l, hl, _ => ⟨0, Nat.le_refl _, by have := List.eq_nil_of_length_eq_zero (Nat.le_zero.1 hl); subst this; simp⟩
  | n + 1, l, hl, hf => by
    by_cases hm : f (n + 1) ∈ l
    · have hle : (l.erase (f (n + 1))).length ≤ n := by rw [List.length_erase_of_mem hm]; omega
      obtain ⟨d, hd, hn⟩ := free_of f n (l.erase (f (n + 1))) hle (fun i j hi hj => hf i j (by omega) (by omega))
      refine ⟨d, by omega, fun hd' => hn ?_⟩
      exact (List.mem_erase_of_ne (fun e => by have := hf d (n + 1) (by omega) (Nat.le_refl _) e; omega)).2 hd'
    · exact ⟨n + 1, Nat.le_refl _, hm⟩
theorem free_place (l : List Int) (hl : l.length ≤ 10) (p : Int) : ∃ d : Nat, d ≤ 10 ∧ (p + d) % 64 ∉ l :=
  free_of (fun d => (p + d) % 64) 10 l hl (fun i j hi hj e => by omega)

def Nodes (w : World) (R M : Nat) (least : Int) (e : Ending) (w' : World) : Prop := ∃ (A : Option Addr) (c : Nat) (xs : List Int),
  e = .returned (.slice A xs.length c) ∧ OwnI w' w.heap.size A c xs ∧ least ≤ xs.length ∧ xs.length ≤ 10 ∧ (∀ x ∈ xs, 0 ≤ x ∧ x < 64) ∧ Rd w' R (M + 11) ∧ w.grownBy w' (some R)

theorem good_any (R M : Nat) (least : Int) (hM : M ≤ 90000) (hl1 : 1 ≤ least) (hl2 : least ≤ 3) (w : World) (h : Rd w R M) : Calls Try.prog 52 #[.pointer (some ⟨R, 0, none⟩), .int .i64 least] w (Nodes w R M least) := by
  obtain ⟨i0, hi, hz0, hz1, hz2⟩ := info_parts int_info
  have HI := Lib.hid hi
  have HZ0 := Lib.hid hz0
  have HZ1 := Lib.hid hz1
  have HZ2 := Lib.hid hz2
  clear hi hz0 hz1 hz2
  go_enter Try.func52, Try.ntmps52
  go_wp2_with fail
  have HE := OwnI.empty w (Nat.le_refl w.heap.size)
  have hg0 := World.grownBy_alloc w (.cells #[] 3) (some R)
  refine (pick_any R M (11 - least) (by omega) (by omega) (by omega) _ (h.below ((Below.refl w.heap.size w).alloc (Nat.le_refl _) _) h.lt)).mono ?_; rintro e w1 ⟨x, x0, x1, rfl, hr1, hg1⟩
  have hR := h.lt
  replace HE := HE.grown hg1 hR
  replace hg1 := grown_next hg0 hg1
  clear hg0 h
  go_wp2_with fail
  go_loopw [5, 7] (fun v i wr => ∃ (j g c : Nat) (xs : List Int), (j : Int) ≤ least + x ∧ i = .int .i64 j ∧ v = .slice (some ⟨g, 0, none⟩) xs.length c ∧ xs.length = j ∧ OwnI wr w.heap.size (some ⟨g, 0, none⟩) c xs ∧ (∀ x ∈ xs, 0 ≤ x ∧ x < 64) ∧ Rd wr R (M + 1 + j) ∧ w.grownBy wr (some R)) (fun _ i _ => (least + x - intOf i).toNat)
  case atStart => exact ⟨0, _, _, [], by omega, rfl, rfl, rfl, HE, fun _ h => by simp at h, hr1, hg1⟩
  case round =>
    obtain ⟨j, g, c, xs, hj, rfl, rfl, hlen, ho, hxs, hr, hg⟩ := hrel
    clear HE hr1 hg1
    have HL := Lib.hid hlen
    have hlen1 : xs.length ≤ j := by omega
    have hlen2 : j ≤ xs.length := by omega
    clear hlen
    by_cases hlt : (j : Int) < least + x
    · go_wp2_with fail
      refine (pick_any R (M + 1 + j) 64 (by omega) (by omega) (by omega) _ hr).mono ?_; rintro e w2 ⟨p, p0, p1, rfl, hr2, hg2⟩
      replace ho := ho.grown hg2 hR
      replace hg := grown_next hg hg2
      clear hr hg2
      obtain ⟨d, hd, hfree⟩ := free_place xs (by omega) p
      have hmax : xs.length ≤ maxLen := by unfold maxLen; omega
      have HH := fun n => Lib.hid (shas_any w2.heap.size _ c xs n hmax w2 ho.nums)
      clear hmax
      go_wp2_with fail
      go_loop [8] (fun v => ∃ k : Nat, k ≤ d ∧ v = .int .i64 ((p + k) % 64)) (fun v => ((p + d - intOf v) % 64).toNat)
      case atStart => exact ⟨0, Nat.zero_le _, by rw [show (p + ((0 : Nat) : Int)) % 64 = p from by omega]⟩
      case round =>
        obtain ⟨k, hk, rfl⟩ := hrel
        have HQ := Lib.hid (show has xs ((p + k) % 64) = true → k < d from fun hh => by
          rw [has_iff] at hh
          rcases Nat.lt_or_ge k d with h' | h'
          · exact h'
          · rw [show k = d from by omega] at hh; exact absurd hh hfree)
        obtain ⟨q, hq⟩ : ∃ q, q = (p + k) % 64 := ⟨_, rfl⟩
        rw [← hq] at HQ ⊢
        have q0 : 0 ≤ q := by omega
        have q1 : q < 64 := by omega
        have HE := Lib.hid hq
        clear hq
        cases hv : has xs q
        · go_wp2_with (go_at_call 40; refine ((HH _).out).mono ?_; rintro e w' ⟨rfl, rfl⟩)
          clear HQ HE hk HH hfree
          go_loop [9] (fun v => ∃ k : Nat, k ≤ xs.length ∧ v = .int .i64 k) (fun v => xs.length - (intOf v).toNat)
          case atStart => exact ⟨0, Nat.zero_le _, rfl⟩
          case round =>
            obtain ⟨k, hk, rfl⟩ := hrel
            have hout : True := trivial
            have hcells := ho.cells
            by_cases hin : ∃ y, k < xs.length ∧ xs[k]? = some y ∧ y < q
            · obtain ⟨y, hk', hy, hyq⟩ := hin
              have hc := hcells k y hy
              rw [add_at, Nat.zero_add] at hc
              clear hy hcells
              go_wp2
              go_round
              case rel => exact ⟨k + 1, by omega, by go_num⟩
              case measure => simp [intOf]; omega
            · have hfin : ∀ y, xs[k]? = some y → q ≤ y := fun y hy => by
                rcases Int.lt_or_le y q with h1 | h1
                · exact absurd ⟨y, (List.getElem?_eq_some_iff.1 hy).1, hy, h1⟩ hin
                · exact h1
              clear hin
              rcases (by omega : k < xs.length ∨ k = xs.length) with hk' | hk'
              · have hy : xs[k]? = some xs[k] := List.getElem?_eq_getElem hk'
                obtain ⟨y, ey⟩ : ∃ y, xs[k] = y := ⟨_, rfl⟩
                rw [ey] at hy
                have hyq := hfin y hy
                have hc := hcells k y hy
                rw [add_at, Nat.zero_add] at hc
                clear hy hcells hfin ey
                go_wp2
                have hlc := ho.len
                have hkc : k ≤ c := by omega
                have hck : ¬ c = k := by omega
                have hkl : k ≤ xs.length := by omega
                clear hlc
                have hgl : g < w2.heap.size := by
                  rcases ho.form with ⟨h1, _⟩ | ⟨g', h1, _, h2⟩
                  · cases h1
                  · injection h1 with h1; injection h1 with h1; omega
                have hbase := hg.size
                clear hc
                go_region_law (first
                  | (refine step_app rfl Try.underlying23 HI.out HZ0.out HZ1.out HZ2.out (.tmp 44) (.tmp 47) rfl (base := w2.heap.size) (xs := []) (ys := xs.take k) rfl rfl ?_ rfl ?_ ?_ ?_ ?_
                     · exact OwnI.empty_of (by omega) (by repeat (first | exact hp_new _ _ | exact hp_new1 _ _ _ | (with_reducible refine hp_drew ?_) | (with_reducible refine hp_old _ ?_)))
                     · exact (ho.upTo k hkl).keep (fun ad e => by injection e with e; subst e; exact Below.block (by repeat (first | exact Below.refl _ _ | exact hB3 | exact hB4 | (refine Below.drew ?_) | (refine Below.alloc ?_ (by first | (simp; done) | (simp; omega) | (have := hB3.size; simp; omega) | (have := hB4.size; simp; omega)) _))) g hgl)
                     · simp; omega
                     · exact (by first | (simp; done) | (simp; omega) | (have := hB3.size; simp; omega) | (have := hB4.size; simp; omega))
                     intro A1 c1 w3 ho1 hg1 hat1
                     generalize hz1 : [] ++ List.take k xs = zs1 at ho1 ⊢
                     have HY1 := Lib.hid hz1
                     have hB3 : Below w2.heap.size w2 w3 := Below.grown (by repeat (first | exact Below.refl _ _ | exact hB3 | exact hB4 | (refine Below.drew ?_) | (refine Below.alloc ?_ (by first | (simp; done) | (simp; omega) | (have := hB3.size; simp; omega) | (have := hB4.size; simp; omega)) _))) hg1 (by first | (simp; done) | (simp; omega) | (have := hB3.size; simp; omega) | (have := hB4.size; simp; omega)) (fun k e => by simp at e; omega)
                     clear hz1 hat1)
                  | (refine step_app rfl Try.underlying23 HI.out HZ0.out HZ1.out HZ2.out (.tmp 48) (.tmp 50) rfl (base := w2.heap.size) (xs := zs1) (ys := [q]) rfl rfl ?_ rfl ?_ ?_ ?_ ?_
                     · first | exact ho1 | exact ho1.alloc _
                     · exact SrcI.one_of (by repeat (first | exact hp_new _ _ | exact hp_new1 _ _ _ | (with_reducible refine hp_drew ?_) | (with_reducible refine hp_old _ ?_) | (refine hp_grown hg1 (by simp) ?_)))
                     · rw [← HY1.out]; simp; omega
                     · exact (by first | (simp; done) | (simp; omega) | (have := hB3.size; simp; omega) | (have := hB4.size; simp; omega))
                     intro A2 c2 w4 ho2 hg2 hat2
                     generalize hz2 : zs1 ++ [q] = zs2 at ho2 ⊢
                     have HY2 := Lib.hid hz2
                     have hB4 : Below w2.heap.size w2 w4 := Below.grown (by repeat (first | exact Below.refl _ _ | exact hB3 | exact hB4 | (refine Below.drew ?_) | (refine Below.alloc ?_ (by first | (simp; done) | (simp; omega) | (have := hB3.size; simp; omega) | (have := hB4.size; simp; omega)) _))) hg2 (by first | (simp; done) | (simp; omega) | (have := hB3.size; simp; omega) | (have := hB4.size; simp; omega)) ho1.row
                     clear hz2 hat2)
                  | (refine step_app rfl Try.underlying23 HI.out HZ0.out HZ1.out HZ2.out (.tmp 51) (.tmp 54) rfl (base := w2.heap.size) (xs := zs2) (ys := xs.drop k) rfl rfl ?_ rfl ?_ ?_ ?_ ?_
                     · exact ho2
                     · exact (ho.from_ k hkl).keep (fun ad e => by injection e with e; subst e; exact hB4.block g hgl)
                     · rw [← HY2.out, ← HY1.out]; simp; omega
                     · exact (by first | (simp; done) | (simp; omega) | (have := hB3.size; simp; omega) | (have := hB4.size; simp; omega))
                     intro A3 c3 w5 ho3 hg3 hat3
                     generalize hz3 : zs2 ++ List.drop k xs = zs3 at ho3 ⊢
                     have hlen3 : zs3.length = xs.length + 1 := by rw [← hz3, ← HY2.out, ← HY1.out]; simp; omega
                     have hall3 : ∀ z ∈ zs3, 0 ≤ z ∧ z < 64 := by
                       intro z hz
                       rw [← hz3, ← HY2.out, ← HY1.out] at hz
                       simp only [List.nil_append, List.append_assoc, List.mem_append, List.mem_cons, List.not_mem_nil, or_false] at hz
                       rcases hz with hz | hz | hz
                       · exact hxs z (List.mem_of_mem_take hz)
                       · subst hz; exact ⟨q0, q1⟩
                       · exact hxs z (List.mem_of_mem_drop hz)
                     obtain ⟨g3, rfl⟩ := ho3.some_ (by omega)
                     have hB5 : Below w2.heap.size w2 w5 := Below.grown (by repeat (first | exact Below.refl _ _ | exact hB3 | exact hB4 | (refine Below.drew ?_) | (refine Below.alloc ?_ (by first | (simp; done) | (simp; omega) | (have := hB3.size; simp; omega) | (have := hB4.size; simp; omega)) _))) hg3 (by first | (simp; done) | (simp; omega) | (have := hB3.size; simp; omega) | (have := hB4.size; simp; omega)) ho2.row
                     have HL3 := Lib.hid hlen3
                     clear hz3 hat3 hlen3))
                all_goals
                  go_wp2
                  go_roundw
                  case rel => exact ⟨j + 1, g3, c3, zs3, by omega, by go_num, rfl, by have := HL3.out; omega, ho3.base hbase, hall3, (hr2.below hB5 hr2.lt).more (by omega), below_of_grown hg hB5⟩
                  case measure => simp [intOf]; omega
              · clear hfin hcells
                subst hk'
                by_cases hck : c = xs.length
                · subst hck
                  go_wp2
                  have hlc := ho.len
                  have hkl : xs.length ≤ xs.length := Nat.le_refl _
                  clear hlc
                  have hgl : g < w2.heap.size := by
                    rcases ho.form with ⟨h1, _⟩ | ⟨g', h1, _, h2⟩
                    · cases h1
                    · injection h1 with h1; injection h1 with h1; omega
                  have hbase := hg.size
                  go_region_law (first
                    | (refine step_app rfl Try.underlying23 HI.out HZ0.out HZ1.out HZ2.out (.tmp 44) (.tmp 47) rfl (base := w2.heap.size) (xs := []) (ys := xs.take xs.length) rfl rfl ?_ rfl ?_ ?_ ?_ ?_
                       · exact OwnI.empty_of (by omega) (by repeat (first | exact hp_new _ _ | exact hp_new1 _ _ _ | (with_reducible refine hp_drew ?_) | (with_reducible refine hp_old _ ?_)))
                       · exact (ho.upTo xs.length hkl).keep (fun ad e => by injection e with e; subst e; exact Below.block (by repeat (first | exact Below.refl _ _ | exact hB3 | exact hB4 | (refine Below.drew ?_) | (refine Below.alloc ?_ (by first | (simp; done) | (simp; omega) | (have := hB3.size; simp; omega) | (have := hB4.size; simp; omega)) _))) g hgl)
                       · simp; omega
                       · exact (by first | (simp; done) | (simp; omega) | (have := hB3.size; simp; omega) | (have := hB4.size; simp; omega))
                       intro A1 c1 w3 ho1 hg1 hat1
                       generalize hz1 : [] ++ List.take xs.length xs = zs1 at ho1 ⊢
                       have HY1 := Lib.hid hz1
                       have hB3 : Below w2.heap.size w2 w3 := Below.grown (by repeat (first | exact Below.refl _ _ | exact hB3 | exact hB4 | (refine Below.drew ?_) | (refine Below.alloc ?_ (by first | (simp; done) | (simp; omega) | (have := hB3.size; simp; omega) | (have := hB4.size; simp; omega)) _))) hg1 (by first | (simp; done) | (simp; omega) | (have := hB3.size; simp; omega) | (have := hB4.size; simp; omega)) (fun k e => by simp at e; omega)
                       clear hz1 hat1)
                    | (refine step_app rfl Try.underlying23 HI.out HZ0.out HZ1.out HZ2.out (.tmp 48) (.tmp 50) rfl (base := w2.heap.size) (xs := zs1) (ys := [q]) rfl rfl ?_ rfl ?_ ?_ ?_ ?_
                       · first | exact ho1 | exact ho1.alloc _
                       · exact SrcI.one_of (by repeat (first | exact hp_new _ _ | exact hp_new1 _ _ _ | (with_reducible refine hp_drew ?_) | (with_reducible refine hp_old _ ?_) | (refine hp_grown hg1 (by simp) ?_)))
                       · rw [← HY1.out]; simp; omega
                       · exact (by first | (simp; done) | (simp; omega) | (have := hB3.size; simp; omega) | (have := hB4.size; simp; omega))
                       intro A2 c2 w4 ho2 hg2 hat2
                       generalize hz2 : zs1 ++ [q] = zs2 at ho2 ⊢
                       have HY2 := Lib.hid hz2
                       have hB4 : Below w2.heap.size w2 w4 := Below.grown (by repeat (first | exact Below.refl _ _ | exact hB3 | exact hB4 | (refine Below.drew ?_) | (refine Below.alloc ?_ (by first | (simp; done) | (simp; omega) | (have := hB3.size; simp; omega) | (have := hB4.size; simp; omega)) _))) hg2 (by first | (simp; done) | (simp; omega) | (have := hB3.size; simp; omega) | (have := hB4.size; simp; omega)) ho1.row
                       clear hz2 hat2)
                    | (refine step_app rfl Try.underlying23 HI.out HZ0.out HZ1.out HZ2.out (.tmp 51) (.tmp 54) rfl (base := w2.heap.size) (xs := zs2) (ys := ([] : List Int)) rfl rfl ?_ rfl ?_ ?_ ?_ ?_
                       · exact ho2
                       · exact SrcI.nothing _ _ _
                       · rw [← HY2.out, ← HY1.out]; simp; omega
                       · exact (by first | (simp; done) | (simp; omega) | (have := hB3.size; simp; omega) | (have := hB4.size; simp; omega))
                       intro A3 c3 w5 ho3 hg3 hat3
                       generalize hz3 : zs2 ++ (([] : List Int)) = zs3 at ho3 ⊢
                       have hlen3 : zs3.length = xs.length + 1 := by rw [← hz3, ← HY2.out, ← HY1.out]; simp <;> omega
                       have hall3 : ∀ z ∈ zs3, 0 ≤ z ∧ z < 64 := by
                         intro z hz
                         rw [← hz3, ← HY2.out, ← HY1.out] at hz
                         simp only [List.nil_append, List.append_assoc, List.mem_append, List.mem_cons, List.not_mem_nil, or_false] at hz
                         rcases hz with hz | hz
                         · exact hxs z (List.mem_of_mem_take hz)
                         · subst hz; exact ⟨q0, q1⟩
                       obtain ⟨g3, rfl⟩ := ho3.some_ (by omega)
                       have hB5 : Below w2.heap.size w2 w5 := Below.grown (by repeat (first | exact Below.refl _ _ | exact hB3 | exact hB4 | (refine Below.drew ?_) | (refine Below.alloc ?_ (by first | (simp; done) | (simp; omega) | (have := hB3.size; simp; omega) | (have := hB4.size; simp; omega)) _))) hg3 (by first | (simp; done) | (simp; omega) | (have := hB3.size; simp; omega) | (have := hB4.size; simp; omega)) ho2.row
                       have HL3 := Lib.hid hlen3
                       clear hz3 hat3 hlen3))
                  all_goals
                    go_wp2
                    go_roundw
                    case rel => exact ⟨j + 1, g3, c3, zs3, by omega, by go_num, rfl, by have := HL3.out; omega, ho3.base hbase, hall3, (hr2.below hB5 hr2.lt).more (by omega), below_of_grown hg hB5⟩
                    case measure => simp [intOf]; omega
                · go_wp2
                  have hlc := ho.len
                  have hkc : xs.length ≤ c := by omega
                  have hkl : xs.length ≤ xs.length := Nat.le_refl _
                  clear hlc
                  have hgl : g < w2.heap.size := by
                    rcases ho.form with ⟨h1, _⟩ | ⟨g', h1, _, h2⟩
                    · cases h1
                    · injection h1 with h1; injection h1 with h1; omega
                  have hbase := hg.size
                  go_region_law (first
                    | (refine step_app rfl Try.underlying23 HI.out HZ0.out HZ1.out HZ2.out (.tmp 44) (.tmp 47) rfl (base := w2.heap.size) (xs := []) (ys := xs.take xs.length) rfl rfl ?_ rfl ?_ ?_ ?_ ?_
                       · exact OwnI.empty_of (by omega) (by repeat (first | exact hp_new _ _ | exact hp_new1 _ _ _ | (with_reducible refine hp_drew ?_) | (with_reducible refine hp_old _ ?_)))
                       · exact (ho.upTo xs.length hkl).keep (fun ad e => by injection e with e; subst e; exact Below.block (by repeat (first | exact Below.refl _ _ | exact hB3 | exact hB4 | (refine Below.drew ?_) | (refine Below.alloc ?_ (by first | (simp; done) | (simp; omega) | (have := hB3.size; simp; omega) | (have := hB4.size; simp; omega)) _))) g hgl)
                       · simp; omega
                       · exact (by first | (simp; done) | (simp; omega) | (have := hB3.size; simp; omega) | (have := hB4.size; simp; omega))
                       intro A1 c1 w3 ho1 hg1 hat1
                       generalize hz1 : [] ++ List.take xs.length xs = zs1 at ho1 ⊢
                       have HY1 := Lib.hid hz1
                       have hB3 : Below w2.heap.size w2 w3 := Below.grown (by repeat (first | exact Below.refl _ _ | exact hB3 | exact hB4 | (refine Below.drew ?_) | (refine Below.alloc ?_ (by first | (simp; done) | (simp; omega) | (have := hB3.size; simp; omega) | (have := hB4.size; simp; omega)) _))) hg1 (by first | (simp; done) | (simp; omega) | (have := hB3.size; simp; omega) | (have := hB4.size; simp; omega)) (fun k e => by simp at e; omega)
                       clear hz1 hat1)
                    | (refine step_app rfl Try.underlying23 HI.out HZ0.out HZ1.out HZ2.out (.tmp 48) (.tmp 50) rfl (base := w2.heap.size) (xs := zs1) (ys := [q]) rfl rfl ?_ rfl ?_ ?_ ?_ ?_
                       · first | exact ho1 | exact ho1.alloc _
                       · exact SrcI.one_of (by repeat (first | exact hp_new _ _ | exact hp_new1 _ _ _ | (with_reducible refine hp_drew ?_) | (with_reducible refine hp_old _ ?_) | (refine hp_grown hg1 (by simp) ?_)))
                       · rw [← HY1.out]; simp; omega
                       · exact (by first | (simp; done) | (simp; omega) | (have := hB3.size; simp; omega) | (have := hB4.size; simp; omega))
                       intro A2 c2 w4 ho2 hg2 hat2
                       generalize hz2 : zs1 ++ [q] = zs2 at ho2 ⊢
                       have HY2 := Lib.hid hz2
                       have hB4 : Below w2.heap.size w2 w4 := Below.grown (by repeat (first | exact Below.refl _ _ | exact hB3 | exact hB4 | (refine Below.drew ?_) | (refine Below.alloc ?_ (by first | (simp; done) | (simp; omega) | (have := hB3.size; simp; omega) | (have := hB4.size; simp; omega)) _))) hg2 (by first | (simp; done) | (simp; omega) | (have := hB3.size; simp; omega) | (have := hB4.size; simp; omega)) ho1.row
                       clear hz2 hat2)
                    | (refine step_app rfl Try.underlying23 HI.out HZ0.out HZ1.out HZ2.out (.tmp 51) (.tmp 54) rfl (base := w2.heap.size) (xs := zs2) (ys := ([] : List Int)) rfl rfl ?_ rfl ?_ ?_ ?_ ?_
                       · exact ho2
                       · exact SrcI.nothing _ _ _
                       · rw [← HY2.out, ← HY1.out]; simp; omega
                       · exact (by first | (simp; done) | (simp; omega) | (have := hB3.size; simp; omega) | (have := hB4.size; simp; omega))
                       intro A3 c3 w5 ho3 hg3 hat3
                       generalize hz3 : zs2 ++ (([] : List Int)) = zs3 at ho3 ⊢
                       have hlen3 : zs3.length = xs.length + 1 := by rw [← hz3, ← HY2.out, ← HY1.out]; simp <;> omega
                       have hall3 : ∀ z ∈ zs3, 0 ≤ z ∧ z < 64 := by
                         intro z hz
                         rw [← hz3, ← HY2.out, ← HY1.out] at hz
                         simp only [List.nil_append, List.append_assoc, List.mem_append, List.mem_cons, List.not_mem_nil, or_false] at hz
                         rcases hz with hz | hz
                         · exact hxs z (List.mem_of_mem_take hz)
                         · subst hz; exact ⟨q0, q1⟩
                       obtain ⟨g3, rfl⟩ := ho3.some_ (by omega)
                       have hB5 : Below w2.heap.size w2 w5 := Below.grown (by repeat (first | exact Below.refl _ _ | exact hB3 | exact hB4 | (refine Below.drew ?_) | (refine Below.alloc ?_ (by first | (simp; done) | (simp; omega) | (have := hB3.size; simp; omega) | (have := hB4.size; simp; omega)) _))) hg3 (by first | (simp; done) | (simp; omega) | (have := hB3.size; simp; omega) | (have := hB4.size; simp; omega)) ho2.row
                       have HL3 := Lib.hid hlen3
                       clear hz3 hat3 hlen3))
                  all_goals
                    go_wp2
                    go_roundw
                    case rel => exact ⟨j + 1, g3, c3, zs3, by omega, by go_num, rfl, by have := HL3.out; omega, ho3.base hbase, hall3, (hr2.below hB5 hr2.lt).more (by omega), below_of_grown hg hB5⟩
                    case measure => simp [intOf]; omega
        · have hkd := HQ.out hv
          go_wp2_with (go_at_call 40; refine ((HH _).out).mono ?_; rintro e w' ⟨rfl, rfl⟩)
          go_round
          case rel => exact ⟨k + 1, by omega, by rw [show (q + 1) % 64 = (p + ((k + 1 : Nat) : Int)) % 64 from by have := HE.out; omega]⟩
          case measure => have := HE.out; simp [intOf]; omega
    · go_wp2
      go_ret
      exact ⟨_, c, xs, rfl, ho, by omega, by omega, hxs, hr.more (by omega), hg⟩
end Go.Proofs.Ytkepfmekghbkeaa
