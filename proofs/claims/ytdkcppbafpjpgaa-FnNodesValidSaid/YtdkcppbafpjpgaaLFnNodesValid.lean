/- The law FnNodesValid: a set of nodes is ascending: with one node less it is a set still, with one twice it is none. Proved for every input, no condition: the law's Go function returns true, and each argument reads afterwards as it read before. -/
import Derived.Test.YtdkcppbafpjpgaaSeat
import Derived.Test.YtdkcppbafpjpgaaCirc
import Derived.Test.YtdkcppbafpjpgaaNodes
import Derived.Test.YtdkcppbafpjpgaaInts
import Derived.Test.YtdkcppbafpjpgaaDraw4
import Derived.Test.YtdkcppbafpjpgaaApp
import Derived.Test.YtdkcppbafpjpgaaPlainM
import Derived.WalkKit
import Derived.ProofKit
import Derived.OpenShut
import Derived.ShutString
import Derived.ChangeOld
import Derived.Below
namespace Go.Proofs.Ytdkcppbafpjpgaa.FnNodesValid
open Go.ChangeShapes Go.WideShapes Go.ChangeAt Go.RowKit
open Go.ChangeMaps (open_string shut_string)
set_option linter.unusedVariables false
set_option maxHeartbeats 400000

set_option maxHeartbeats 2000000 in
theorem walk (A : Option Addr) (c : Nat) (xs : List Int) (A' : Option Addr) (c' : Nat) (zs : List Int) (w : World) (w0 : Arg .u8 w A c xs) (w1 : Arg .u8 w A' c' zs) : Calls Try.prog 6 #[.slice A xs.length c, .slice A' zs.length c'] w fun e w' => e = .returned (.bool true) ∧ Below w.heap.size w w' := by
  have HO := Lib.hid (drawValid_any A c xs w w0)
  obtain ⟨hl, hc, -, -⟩ := w0
  obtain ⟨hl', hc', -, -⟩ := w1
  unfold maxLen at hc  hc'
  by_cases hbig : 1048576 < xs.length
  · go_enter Try.func6, Try.ntmps6
    go_wp2
    go_ret
    exact ⟨rfl, Below.refl _ _⟩
  by_cases hbig' : 1048576 < zs.length
  · have hsm : xs.length ≤ 1048576 := by omega
    go_enter Try.func6, Try.ntmps6
    go_wp2
    go_ret
    exact ⟨rfl, Below.refl _ _⟩
  have hsm : xs.length ≤ 1048576 := by omega
  have hsm' : zs.length ≤ 1048576 := by omega
  clear hbig hl hc hbig' hl' hc'
  go_enter Try.func6, Try.ntmps6
  go_wp2_with fail
  refine HO.out.mono ?_; rintro e w1 ⟨B, d, ys, rfl, ho, hy20, hyb, hB⟩
  clear HO
  obtain ⟨i0, hi, hz0, hz1, hz2⟩ := info_parts int_info
  have HI := Lib.hid hi
  have HZ0 := Lib.hid hz0
  have HZ1 := Lib.hid hz1
  have HZ2 := Lib.hid hz2
  clear hi hz0 hz1 hz2
  have hmax : ys.length ≤ maxLen := by unfold maxLen; omega
  have H1 := Lib.hid (nval_impl w1.heap.size B d ys hmax w1 ho.nums)
  have H2 := Lib.hid (nval_spec w1.heap.size B d ys hmax w1 ho.nums)
  go_wp2_with fail
  refine H1.out.mono ?_; rintro e w' ⟨rfl, rfl⟩
  go_wp2_with fail
  refine H2.out.mono ?_; rintro e w2 ⟨rfl, hw2⟩
  have hb2 := below_draw hw2
  clear hw2
  replace ho := ho.below hb2 (Nat.le_refl _)
  replace hB := below_next hB hb2
  clear hb2 H1 H2
  by_cases hv : nval ys = true
  · have hlen := nval_len hv
    obtain ⟨hl1, hl2⟩ := hlen
    obtain ⟨g, rfl⟩ := ho.some_ (by omega)
    have hgl : g < w2.heap.size := by
      rcases ho.form with ⟨h1, _⟩ | ⟨g', h1, _, h2⟩
      · cases h1
      · injection h1 with h1; injection h1 with h1; omega
    have hld := ho.len
    have hdd : ys.length ≤ d := hld.1
    clear hld
    obtain ⟨k, hk⟩ : ∃ k, k = zs.length % ys.length := ⟨_, rfl⟩
    have hkl : k < ys.length := by rw [hk]; exact Nat.mod_lt _ (by omega)
    have q1 : (zs.length : Int).tmod (ys.length : Int) = (k : Int) := by rw [hk]; exact IntWalk.up_tmod rfl rfl
    have q2 : (zs.length : Int) % (ys.length : Int) = (k : Int) := by rw [hk]; rfl
    have q3 : zs.length % ys.length = k := hk.symm
    have qz : ¬ ys.length = 0 := by omega
    obtain ⟨less, hless⟩ : ∃ l, l = ys.take k ++ ys.drop (k + 1) := ⟨_, rfl⟩
    obtain ⟨twice, htwice⟩ : ∃ l, l = ys.take (k + 1) ++ ys.drop k := ⟨_, rfl⟩
    have HLess := Lib.hid (less_valid hv k hkl)
    have HTwice := Lib.hid (twice_valid (xs := ys) k hkl)
    rw [← hless] at HLess
    rw [← htwice] at HTwice
    have HLS := Lib.hid hless
    have HTW := Lib.hid htwice
    have hll : less.length ≤ 20 := by rw [hless]; simp; omega
    have htl : twice.length ≤ 20 := by rw [htwice]; simp; omega
    clear hless htwice
    clear hk
    go_wp2
    clear q1 q2 q3 hv
    have w1a : IntKind.i64.wrap ((k : Int) + 1) = (k : Int) + 1 := IntWalk.i64_in _ (by omega)
    have w1b : (0 : Int) ≤ (k : Int) + 1 := by omega
    have w1c : ((k : Int) + 1).toNat = k + 1 := by omega
    have w1d : (k : Int) + 1 ≤ (ys.length : Int) := by omega
    have w1e : k + 1 ≤ ys.length := by omega
    have w1f : k + 1 ≤ d := by omega
    have w1g : k ≤ d := by omega
    have w1h : k ≤ ys.length := by omega
    have w1i : ¬ d = k := by omega
    have w1j : (k : Int) ≤ (k : Int) + 1 := by omega
    rcases (by omega : d = k + 1 ∨ ¬ d = k + 1) with hck | hck
    · subst hck
      have hfull : ys.length = k + 1 := by omega
      have HF := Lib.hid hfull
      clear hfull
      go_cut [9] (fun v wx => ∃ (E : Option Addr) (f : Nat), v = .slice E less.length f ∧ OwnI wx w2.heap.size E f less ∧ Below w2.heap.size w2 wx)
      case first =>
        go_region_law (first
          | (refine step_app rfl Try.underlying30 HI.out HZ0.out HZ1.out HZ2.out (.tmp 40) (.tmp 43) rfl (base := w2.heap.size) (xs := []) (ys := ys.take k) rfl rfl ?_ rfl ?_ ?_ ?_ ?_
             · exact OwnI.empty_of (by omega) (by repeat (first | exact hp_new _ _ | exact hp_new1 _ _ _ | (with_reducible refine hp_drew ?_) | (with_reducible refine hp_old _ ?_)))
             · exact (ho.upTo k (by omega)).keep (fun ad e => by injection e with e; subst e; exact Below.block (by repeat (first | exact Below.refl _ _ | (refine Below.drew ?_) | (refine Below.alloc ?_ (by first | (simp; done) | (simp; omega)) _))) g hgl)
             · simp; omega
             · exact (by first | (simp; done) | (simp; omega))
             intro E1 f1 w3 ho1 hg1 hat1
             generalize hz1 : [] ++ ys.take k = zs1 at ho1 ⊢
             have HY1 := Lib.hid hz1
             have hB3 : Below w2.heap.size w2 w3 := Below.grown (by repeat (first | exact Below.refl _ _ | (refine Below.drew ?_) | (refine Below.alloc ?_ (by first | (simp; done) | (simp; omega)) _))) hg1 (by first | (simp; done) | (simp; omega)) (fun k e => by simp at e; omega)
             clear hz1 hat1)
          | (refine step_app rfl Try.underlying30 HI.out HZ0.out HZ1.out HZ2.out (.tmp 44) (.tmp 48) rfl (base := w2.heap.size) (xs := zs1) (ys := ys.drop (k + 1)) rfl rfl ?_ rfl ?_ ?_ ?_ ?_
             · first | exact ho1 | exact ho1.alloc _
             · exact SrcI.keep (SrcI.endZero ⟨g, 0, none⟩ 0 HF.out) (fun ad e => by injection e with e; subst e; exact hB3.block g hgl)
             · rw [← HY1.out]; simp; omega
             · exact (by first | (simp; done) | (simp; omega) | (have := hB3.size; simp; omega))
             intro E2 f2 w4 ho2 hg2 hat2
             have hB4 : Below w2.heap.size w2 w4 := Below.grown hB3 hg2 (by first | (simp; done) | (simp; omega) | (have := hB3.size; simp; omega)) ho1.row
             clear hat2
             rw [show zs1 ++ ys.drop (k + 1) = less from by rw [HLS.out, ← HY1.out, List.nil_append]] at ho2 ⊢))
        all_goals
          go_wp2_with fail
          go_meet
          exact ⟨E2, f2, rfl, ho2, hB4⟩
      case rest =>
        obtain ⟨E, f, rfl, hoE, hbE⟩ := hcut
        rename World => w5
        have ho5 := ho.below hbE (Nat.le_refl _)
        have hgl5 : g < w5.heap.size := by have := hbE.size; omega
        have hB5 := hB.trans (hbE.mono hB.size)
        clear ho hbE hB
        by_cases h1 : 1 < ys.length
        all_goals
          have hn : nval less = _ := HLess.out.trans (by first | exact decide_eq_true h1 | exact decide_eq_false h1)
          have ht := HTwice.out
          have h1' : ys.length ≤ 1 ∨ 1 < ys.length := by omega
          have hlm : less.length ≤ maxLen := by unfold maxLen; omega
          have htm : twice.length ≤ maxLen := by unfold maxLen; omega
          go_wp2
          go_region_law (first
            | (refine step_app rfl Try.underlying30 HI.out HZ0.out HZ1.out HZ2.out (.tmp 50) (.tmp 54) rfl (base := w5.heap.size) (xs := []) (ys := ys.take (k + 1)) rfl rfl ?_ rfl ?_ ?_ ?_ ?_
               · exact OwnI.empty_of (by omega) (by repeat (first | exact hp_new _ _ | exact hp_new1 _ _ _ | (with_reducible refine hp_drew ?_) | (with_reducible refine hp_old _ ?_)))
               · exact (ho5.upTo (k + 1) (by omega)).keep (fun ad e => by injection e with e; subst e; exact Below.block (by repeat (first | exact Below.refl _ _ | (refine Below.drew ?_) | (refine Below.alloc ?_ (by first | (simp; done) | (simp; omega)) _))) g hgl5)
               · simp; omega
               · exact (by first | (simp; done) | (simp; omega))
               intro E1b f1b w3b ho1b hg1b hat1b
               generalize hz1b : [] ++ ys.take (k + 1) = zs1b at ho1b ⊢
               have HY1b := Lib.hid hz1b
               have hB3b : Below w5.heap.size w5 w3b := Below.grown (by repeat (first | exact Below.refl _ _ | (refine Below.drew ?_) | (refine Below.alloc ?_ (by first | (simp; done) | (simp; omega)) _))) hg1b (by first | (simp; done) | (simp; omega)) (fun k e => by simp at e; omega)
               clear hz1b hat1b)
            | (refine step_app rfl Try.underlying30 HI.out HZ0.out HZ1.out HZ2.out (.tmp 55) (.tmp 58) rfl (base := w5.heap.size) (xs := zs1b) (ys := ys.drop k) rfl rfl ?_ rfl ?_ ?_ ?_ ?_
               · first | exact ho1b | exact ho1b.alloc _
               · exact SrcI.keep ((ho5.from_ k w1h).cap _) (fun ad e => by injection e with e; subst e; exact hB3b.block g hgl5)
               · rw [← HY1b.out]; simp; omega
               · exact (by first | (simp; done) | (simp; omega) | (have := hB3b.size; simp; omega))
               intro E2b f2b w4b ho2b hg2b hat2b
               have hB4b : Below w5.heap.size w5 w4b := Below.grown hB3b hg2b (by first | (simp; done) | (simp; omega) | (have := hB3b.size; simp; omega)) ho1b.row
               clear hat2b
               rw [show zs1b ++ ys.drop k = twice from by rw [HTW.out, ← HY1b.out, List.nil_append]] at ho2b ⊢))
          all_goals
            have hB6 := hB5.trans (hB4b.mono hB5.size)
            have N1 := Lib.hid (nval_impl w4b.heap.size E f less hlm w4b (hoE.below hB4b (Nat.le_refl _)).nums)
            have N2 := Lib.hid (nval_impl w4b.heap.size _ f2b twice htm w4b ho2b.nums)
            go_wp2_with fail
            refine N1.out.mono ?_; rintro e w' ⟨rfl, rfl⟩
            go_wp2_with fail
            refine N2.out.mono ?_; rintro e w' ⟨rfl, rfl⟩
            go_wp2
            go_ret
            exact ⟨ret_bool (by first | rfl | (simp; omega)), hB6⟩
    · have w1k : (k : Int) + 1 ≤ (d : Int) := by omega
      go_cut [9] (fun v wx => ∃ (E : Option Addr) (f : Nat), v = .slice E less.length f ∧ OwnI wx w2.heap.size E f less ∧ Below w2.heap.size w2 wx)
      case first =>
        go_region_law (first
          | (refine step_app rfl Try.underlying30 HI.out HZ0.out HZ1.out HZ2.out (.tmp 40) (.tmp 43) rfl (base := w2.heap.size) (xs := []) (ys := ys.take k) rfl rfl ?_ rfl ?_ ?_ ?_ ?_
             · exact OwnI.empty_of (by omega) (by repeat (first | exact hp_new _ _ | exact hp_new1 _ _ _ | (with_reducible refine hp_drew ?_) | (with_reducible refine hp_old _ ?_)))
             · exact (ho.upTo k (by omega)).keep (fun ad e => by injection e with e; subst e; exact Below.block (by repeat (first | exact Below.refl _ _ | (refine Below.drew ?_) | (refine Below.alloc ?_ (by first | (simp; done) | (simp; omega)) _))) g hgl)
             · simp; omega
             · exact (by first | (simp; done) | (simp; omega))
             intro E1 f1 w3 ho1 hg1 hat1
             generalize hz1 : [] ++ ys.take k = zs1 at ho1 ⊢
             have HY1 := Lib.hid hz1
             have hB3 : Below w2.heap.size w2 w3 := Below.grown (by repeat (first | exact Below.refl _ _ | (refine Below.drew ?_) | (refine Below.alloc ?_ (by first | (simp; done) | (simp; omega)) _))) hg1 (by first | (simp; done) | (simp; omega)) (fun k e => by simp at e; omega)
             clear hz1 hat1)
          | (refine step_app rfl Try.underlying30 HI.out HZ0.out HZ1.out HZ2.out (.tmp 44) (.tmp 48) rfl (base := w2.heap.size) (xs := zs1) (ys := ys.drop (k + 1)) rfl rfl ?_ rfl ?_ ?_ ?_ ?_
             · first | exact ho1 | exact ho1.alloc _
             · exact SrcI.keep ((ho.from_ (k + 1) w1e).cap _) (fun ad e => by injection e with e; subst e; exact hB3.block g hgl)
             · rw [← HY1.out]; simp; omega
             · exact (by first | (simp; done) | (simp; omega) | (have := hB3.size; simp; omega))
             intro E2 f2 w4 ho2 hg2 hat2
             have hB4 : Below w2.heap.size w2 w4 := Below.grown hB3 hg2 (by first | (simp; done) | (simp; omega) | (have := hB3.size; simp; omega)) ho1.row
             clear hat2
             rw [show zs1 ++ ys.drop (k + 1) = less from by rw [HLS.out, ← HY1.out, List.nil_append]] at ho2 ⊢))
        all_goals
          go_wp2_with fail
          go_meet
          exact ⟨E2, f2, rfl, ho2, hB4⟩
      case rest =>
        obtain ⟨E, f, rfl, hoE, hbE⟩ := hcut
        rename World => w5
        have ho5 := ho.below hbE (Nat.le_refl _)
        have hgl5 : g < w5.heap.size := by have := hbE.size; omega
        have hB5 := hB.trans (hbE.mono hB.size)
        clear ho hbE hB
        by_cases h1 : 1 < ys.length
        all_goals
          have hn : nval less = _ := HLess.out.trans (by first | exact decide_eq_true h1 | exact decide_eq_false h1)
          have ht := HTwice.out
          have h1' : ys.length ≤ 1 ∨ 1 < ys.length := by omega
          have hlm : less.length ≤ maxLen := by unfold maxLen; omega
          have htm : twice.length ≤ maxLen := by unfold maxLen; omega
          go_wp2
          go_region_law (first
            | (refine step_app rfl Try.underlying30 HI.out HZ0.out HZ1.out HZ2.out (.tmp 50) (.tmp 54) rfl (base := w5.heap.size) (xs := []) (ys := ys.take (k + 1)) rfl rfl ?_ rfl ?_ ?_ ?_ ?_
               · exact OwnI.empty_of (by omega) (by repeat (first | exact hp_new _ _ | exact hp_new1 _ _ _ | (with_reducible refine hp_drew ?_) | (with_reducible refine hp_old _ ?_)))
               · exact (ho5.upTo (k + 1) (by omega)).keep (fun ad e => by injection e with e; subst e; exact Below.block (by repeat (first | exact Below.refl _ _ | (refine Below.drew ?_) | (refine Below.alloc ?_ (by first | (simp; done) | (simp; omega)) _))) g hgl5)
               · simp; omega
               · exact (by first | (simp; done) | (simp; omega))
               intro E1b f1b w3b ho1b hg1b hat1b
               generalize hz1b : [] ++ ys.take (k + 1) = zs1b at ho1b ⊢
               have HY1b := Lib.hid hz1b
               have hB3b : Below w5.heap.size w5 w3b := Below.grown (by repeat (first | exact Below.refl _ _ | (refine Below.drew ?_) | (refine Below.alloc ?_ (by first | (simp; done) | (simp; omega)) _))) hg1b (by first | (simp; done) | (simp; omega)) (fun k e => by simp at e; omega)
               clear hz1b hat1b)
            | (refine step_app rfl Try.underlying30 HI.out HZ0.out HZ1.out HZ2.out (.tmp 55) (.tmp 58) rfl (base := w5.heap.size) (xs := zs1b) (ys := ys.drop k) rfl rfl ?_ rfl ?_ ?_ ?_ ?_
               · first | exact ho1b | exact ho1b.alloc _
               · exact SrcI.keep ((ho5.from_ k w1h).cap _) (fun ad e => by injection e with e; subst e; exact hB3b.block g hgl5)
               · rw [← HY1b.out]; simp; omega
               · exact (by first | (simp; done) | (simp; omega) | (have := hB3b.size; simp; omega))
               intro E2b f2b w4b ho2b hg2b hat2b
               have hB4b : Below w5.heap.size w5 w4b := Below.grown hB3b hg2b (by first | (simp; done) | (simp; omega) | (have := hB3b.size; simp; omega)) ho1b.row
               clear hat2b
               rw [show zs1b ++ ys.drop k = twice from by rw [HTW.out, ← HY1b.out, List.nil_append]] at ho2b ⊢))
          all_goals
            have hB6 := hB5.trans (hB4b.mono hB5.size)
            have N1 := Lib.hid (nval_impl w4b.heap.size E f less hlm w4b (hoE.below hB4b (Nat.le_refl _)).nums)
            have N2 := Lib.hid (nval_impl w4b.heap.size _ f2b twice htm w4b ho2b.nums)
            go_wp2_with fail
            refine N1.out.mono ?_; rintro e w' ⟨rfl, rfl⟩
            go_wp2_with fail
            refine N2.out.mono ?_; rintro e w' ⟨rfl, rfl⟩
            go_wp2
            go_ret
            exact ⟨ret_bool (by first | rfl | (simp; omega)), hB6⟩
  · have hv : nval ys = false := by simpa using hv
    go_wp2
    go_ret
    exact ⟨rfl, hB⟩

set_option maxRecDepth 100000 in
theorem lifted (os : Os) (started : os.Started) (H : Type) (enc : TypeId × Value → H) :
    ReturnsInHanded {} Try.checked os 6 .any (Rows.fnNodesValidSpec.pre6 enc Try.prog Try.f6 Rows.fnNodesValidRow.domain false) (Rows.fnNodesValidSpec.post enc Try.prog Try.f6 false true false false) := by
  refine returnsInHanded_of_change (C := Try.checked) own started (by kernel_rfl) Try.func6
    (ChangeSpec.witness6 (enc := enc) (C := Try.checked) false ⟨#[], #[.slice none 0 0, .slice none 0 0], []⟩ 8 (by kernel_rfl) (by kernel_rfl) (by kernel_rfl) (by kernel_rfl)) ?_
  intro W base args ds gs before hval0 hW hcnd _
  have hval : ∀ (j : Nat) t v, Try.f6.params[j]? = some t → args[j]? = some v → Value.okWide Try.prog W .any base t v := hval0
  have hW' := hW
  obtain ⟨p, q, hA0, hV, rfl, hfz, hnd⟩ := hW
  have hA : DataW.TrodAll enc Try.prog W 0 (fun _ => true) true Try.f6.params.toList args.toList ds p := hA0
  rw [Try.params6] at hA hval
  obtain ⟨v0, vs0, d0, ds0, p0, q0, hargs, rfl, rfl, h0, r0⟩ := trodAll_cons hA
  obtain ⟨v1, vs1, d1, ds1, p1, q1, rfl, rfl, rfl, h1, r1⟩ := trodAll_cons r0
  obtain ⟨rfl, rfl, rfl⟩ := trodAll_nil r1
  obtain rfl : args = #[v0, v1] := by cases args; simp_all
  obtain ⟨rfl, rfl⟩ := trodVars_none hV
  obtain ⟨A0, len0, c0, rfl⟩ := okWide_slice Try.underlying22 (hval 0 22 v0 rfl rfl)
  have k0 := h0
  have lt0 : ∀ x ∈ p0, x.block < W.heap.size := by obtain ⟨m, hm⟩ := k0; exact DataW.trod_lt m _ _ _ hm
  obtain ⟨xs0, rfl, w0⟩ : ∃ xs : List Int, xs.length = len0 ∧ Arg .u8 W A0 c0 xs := by
    obtain ⟨fuel, hf⟩ := h0
    rcases open_ints Try.underlying22 Try.underlying5 (by kernel_rfl) hf with ⟨hcs, _⟩ | ⟨x, l, c, zs, hcs, _, hl, hm, hz, _, hcell, hwz⟩
    · simp [Value.cells] at hcs
      obtain ⟨rfl, rfl, rfl⟩ := hcs
      exact Arg.none_
    · simp [Value.cells] at hcs
      obtain ⟨rfl, rfl, rfl⟩ := hcs
      exact Arg.row hl hm (by simpa using hz) hcell hwz
  obtain ⟨A1, len1, c1, rfl⟩ := okWide_slice Try.underlying22 (hval 1 22 v1 rfl rfl)
  have k1 := h1
  have lt1 : ∀ x ∈ p1, x.block < W.heap.size := by obtain ⟨m, hm⟩ := k1; exact DataW.trod_lt m _ _ _ hm
  obtain ⟨xs1, rfl, w1⟩ : ∃ xs : List Int, xs.length = len1 ∧ Arg .u8 W A1 c1 xs := by
    obtain ⟨fuel, hf⟩ := h1
    rcases open_ints Try.underlying22 Try.underlying5 (by kernel_rfl) hf with ⟨hcs, _⟩ | ⟨x, l, c, zs, hcs, _, hl, hm, hz, _, hcell, hwz⟩
    · simp [Value.cells] at hcs
      obtain ⟨rfl, rfl, rfl⟩ := hcs
      exact Arg.none_
    · simp [Value.cells] at hcs
      obtain ⟨rfl, rfl, rfl⟩ := hcs
      exact Arg.row hl hm (by simpa using hz) hcell hwz
  clear hA0 hval0
  refine (walk A0 c0 xs0 A1 c1 xs1 W w0 w1).mono fun e W' ⟨he, bel⟩ => ?_
  subst he
  exact ⟨_, rfl, _, _, _, [], _, [], hW', trodAll_mk1 (shut_bool Try.underlying4 _), (trodAll_cons_mk (Below.trod laidOut (by kernel_rfl) (of_decide_eq_true (by kernel_rfl)) k0 bel lt0) (trodAll_cons_mk (Below.trod laidOut (by kernel_rfl) (of_decide_eq_true (by kernel_rfl)) k1 bel lt1) trodAll_mk0)), rfl, bel.frame _, fun h => by cases h⟩

theorem nm : Try.f6.name = Rows.fnNodesValidRow.func := by kernel_rfl
theorem notMain : decide (Check.packageOf Rows.fnNodesValidRow.func = "main") = false := by kernel_rfl
theorem noWrapper : Func.isWrapper Try.prog Try.f6 Rows.fnNodesValidRow.wrapper Rows.fnNodesValidRow.mainSum := by
  unfold Func.isWrapper; rw [nm, if_neg (of_decide_eq_false notMain)]; exact ⟨rfl, rfl⟩
theorem closed : joinedFacts Try.prog 6 Try.f6 Rows.fnNodesValidSpec Rows.fnNodesValidRow = true := by
  unfold joinedFacts
  exact (andI (andI (andI (andI (andI (andI (andI (andI (andI (andI (andI (andI (andI (andI (andI (andI (andI (andI (andI (andI (andI (andI (andI (andI (andI (andI (andI (andI (andI (andI (andI (by kernel_rfl) laidOut) rowed) (by kernel_rfl)) (by kernel_rfl)) (by kernel_rfl)) (by kernel_rfl)) (by kernel_rfl)) (by kernel_rfl)) (by kernel_rfl)) (by kernel_rfl)) (by kernel_rfl)) (by kernel_rfl)) (by kernel_rfl)) (by kernel_rfl)) (by kernel_rfl)) (by kernel_rfl)) (by kernel_rfl)) (by kernel_rfl)) (by kernel_rfl)) (by kernel_rfl)) (by kernel_rfl)) (by rw [plain_keys]; kernel_rfl)) (by kernel_rfl)) heard) mayEnter) (by rw [liftsFinal]; kernel_rfl)) (by rw [makeCut]; kernel_rfl)) (by kernel_rfl)) (by kernel_rfl)) (by kernel_rfl)) (by kernel_rfl))
theorem noInstance : decide (Func.isInstance Try.prog Try.f6 Rows.fnNodesValidRow.origin Rows.fnNodesValidRow.targs) = true := by kernel_rfl
theorem named : Try.prog.funcNamed Rows.fnNodesValidRow.func = some 6 := by kernel_rfl
theorem over : Rows.fnNodesValidRow.holds Try.pinned (OpenSpec.ofChange Rows.fnNodesValidSpec) :=
  OpenClaim.holds_of_wide 6 Try.f6 rfl rfl rfl rfl rfl rfl rfl ⟨rfl, rfl, rfl, rfl, rfl⟩ rfl rfl rfl rfl rfl named Try.func6 closed
    (of_decide_eq_true noInstance) noWrapper
    (fun os started H enc _ => lifted os started H enc)

/-- The statement. -/
theorem proved : Rows.FnNodesValidSaid := over
#print axioms proved
end Go.Proofs.Ytdkcppbafpjpgaa.FnNodesValid
