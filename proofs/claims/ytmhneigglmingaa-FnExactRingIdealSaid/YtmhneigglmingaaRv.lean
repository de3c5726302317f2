/- Walks: RingValid of the implementation and of the reference. -/
import Derived.Test.YtmhneigglmingaaNodeQ
import Derived.Test.YtmhneigglmingaaPosn
namespace Go.Proofs.Ytmhneigglmingaa
open Go.RowKit
set_option maxHeartbeats 4000000
set_option linter.unusedVariables false
/-- Node i is valid: its position, above the one before it; the node before it; its list. -/
def okAt (xs : List Nod) (i : Nat) : Bool :=
  match xs[i]? with
  | none => false
  | some x => pos x.1 && ((i == 0 || decide ((xs[i-1]?.getD (0, 0, [])).1 < x.1)) && ((x.2.1 == -1 || pos x.2.1) && (decide (x.2.2.length = 2) && x.2.2.all pos)))
def okTo (xs : List Nod) (k : Nat) : Bool := (List.range k).all (okAt xs)
/-- A ring is valid. -/
def rgVal (xs : List Nod) : Bool := decide (xs.length ≤ 10) && okTo xs xs.length
theorem okTo_succ (xs : List Nod) (k : Nat) : okTo xs (k + 1) = (okTo xs k && okAt xs k) := by simp [okTo, List.range_succ]
theorem ok_false (xs : List Nod) (k : Nat) (hk : k < xs.length) (h : okAt xs k = false) : okTo xs xs.length = false := by
  unfold okTo
  rw [List.all_eq_false]
  exact ⟨k, by simpa using hk, by simpa using h⟩
theorem okAt_zero {xs : List Nod} {x1 x2 : Int} {x3 : List Int} (hx : xs[0]? = some (x1, x2, x3)) : okAt xs 0 = (pos x1 && ((x2 == -1 || pos x2) && (decide (x3.length = 2) && x3.all pos))) := by simp [okAt, hx]
theorem okAt_succ {xs : List Nod} {j : Nat} {x1 x2 : Int} {x3 : List Int} {y : Nod} (hy : xs[j]? = some y) (hx : xs[j + 1]? = some (x1, x2, x3)) : okAt xs (j + 1) = (pos x1 && (decide (y.1 < x1) && ((x2 == -1 || pos x2) && (decide (x3.length = 2) && x3.all pos)))) := by simp [okAt, hx, hy]
theorem below_drewN {B : Nat} {w w' : World} (h : Below B w w') (n : Nat) : Below B w (w'.drewN n) := ⟨h.os, h.tape, h.output, h.size, h.block⟩
theorem NodAt.lt {w : World} {B b off k : Nat} {xs : List Nod} {x : Nod} (h : NodAt w B (some ⟨b, off, none⟩) xs) (hx : xs[k]? = some x) : b < B := by
  obtain ⟨b', off', _, _, e, hb, _⟩ := h k x hx
  injection e with e
  injection e with e1 e2
  omega
theorem okv {n : Int} {b : Bool} (h : pos n = b) (w : World) : Calls Try.prog 33 #[.int .i64 n] w fun e w' => e = .returned (.bool b) ∧ w' = w := by subst h; exact (ok_any n w).mono fun _ _ ⟨h, k⟩ => ⟨h, k.symm⟩
theorem ptv {n : Int} {b : Bool} (h : pos n = b) (w : World) : Calls Try.prog 31 #[.int .i64 n] w fun e w' => e = .returned (.bool b) ∧ w' = w := by subst h; exact point_left n w
theorem posv {A : Option Addr} {c : Nat} {xs : List Int} {b : Bool} (hp : xs.all pos = b) (hl : xs.length ≤ maxLen) {B : Nat} (w : World) (h : NumsAt .i64 w B A xs) : Calls Try.prog 34 #[.slice A xs.length c] w fun e w' => e = .returned (.bool b) ∧ w' = w := by subst hp; exact (positions_any B A c xs hl w h).mono fun _ _ ⟨h, k⟩ => ⟨h, k.symm⟩
theorem rv_spec (B : Nat) (A : Option Addr) (c : Nat) (xs : List Nod) (hl : xs.length ≤ c) (hc : c ≤ maxLen) (w : World) (hB : B ≤ w.heap.size) (h : NodAt w B A xs) :
    Calls Try.prog 10 #[.slice A xs.length c] w fun e w' => e = .returned (.bool (rgVal xs)) ∧ Below w.heap.size w w' := by
  unfold maxLen at hc
  have HV := Lib.hid (show rgVal xs = (decide ((xs.length : Int) ≤ 10) && okTo xs xs.length) from by unfold rgVal; congr 1; rw [Bool.eq_iff_iff]; simp; omega)
  go_enter Try.func10, Try.ntmps10
  go_wp2_with fail
  go_loopw [3] (fun i wr => ∃ k : Nat, k ≤ xs.length ∧ i = .int .i64 k ∧ okTo xs k = true ∧ Below w.heap.size w wr) (fun i _ => xs.length - (intOf i).toNat)
  case atStart => exact ⟨0, Nat.zero_le _, rfl, rfl, Below.refl _ _⟩
  case round =>
    obtain ⟨k, hk, rfl, hall, hb⟩ := hrel
    have Hall := Lib.hid hall
    clear hall
    by_cases hlt : k < xs.length
    · obtain ⟨b, off, rfl⟩ := h.some_ (by omega)
      obtain ⟨x, hx⟩ : ∃ x, xs[k]? = some x := ⟨_, List.getElem?_eq_getElem hlt⟩
      have hat := h.below (hb.mono hB)
      obtain ⟨A', c', c1, c2, c3, h1, h2, h3⟩ := hat.at_ hx
      obtain ⟨x1, x2, x3⟩ := x
      simp only at c1 c2 c3 h1 h3
      have HS := Lib.hid (okTo_succ xs k)
      have HF := Lib.hid (ok_false xs k hlt)
      have hbl : b < wr.heap.size := Nat.lt_of_lt_of_le (hat.lt hx) (Nat.le_trans hB hb.size)
      obtain ⟨O, hO⟩ : ∃ O, O = Obj.cells #[.int .i64 x1, .int .i64 x2, .slice A' x3.length c'] 41 (0, 0) := ⟨_, rfl⟩
      have hb3 : Below wr.heap.size wr (wr.alloc O) := (Below.refl _ wr).alloc (Nat.le_refl _) O
      have hX : (wr.alloc O).heap[wr.heap.size]? = some O := alloc_top wr O
      have H3 := fun (W : World) (hW : Below wr.heap.size wr W) => Lib.hid (h3.below (hW.mono (Nat.le_trans hB hb.size)))
      have hm3 : x3.length ≤ maxLen := Nat.le_trans h1 h2
      have nxtB := fun (W : World) (hW : Below wr.heap.size wr W) => below_next (w1 := wr) hb hW
      have fin : ∀ (W : World), okAt xs k = false → Below wr.heap.size wr W → (Ending.returned (.bool false) = Ending.returned (.bool (rgVal xs)) ∧ Below w.heap.size w W) := fun W hf hW =>
        ⟨ret_bool (by rw [HV.out, HF.out hf, Bool.and_false]), nxtB W hW⟩
      have HB3 := Lib.hid hb3
      have HXX := Lib.hid hX
      rw [hO] at HB3 HXX
      have hd : ∀ p : Addr, p.block = b → ((wr.alloc O).cell? p) = wr.cell? p := fun p hp => hb3.cell (by rw [hp]; exact hbl)
      rw [hO] at hd
      unfold maxLen at h2
      clear hb3 hX h3 hO hb
      rcases k with _ | j
      · have HA := Lib.hid (okAt_zero hx)
        rw [Nat.zero_mul, Nat.add_zero] at c1 c2 c3
        clear h hx hat
        rw [show ((0 : Nat) : Int) = 0 from rfl]
        cases p1 : pos x1
        · rw [p1] at HA
          go_wp2_with fail
          go_quiet ((go_at_call 31; with_reducible exact Calls.quiet_of_same (ptv p1 _)))
          go_wp2
          go_ret
          exact fin _ (by rw [HA.out]; rfl) (by first | exact HB3.out | exact below_drewN HB3.out _)
        by_cases hm1 : x2 = -1
        · subst hm1
          by_cases p4 : ¬ x3.length = 2
          · have p4' : ((x3.length : Int) != 2) = true := by simp; omega
            rw [p1, show ((-1 : Int) == -1 || pos (-1)) = true from rfl, decide_eq_false p4] at HA
            clear p4
            go_wp2_with fail
            go_quiet ((go_at_call 31; with_reducible exact Calls.quiet_of_same (ptv p1 _)))
            go_wp2
            go_ret
            exact fin _ (by rw [HA.out]; simp) (by first | exact HB3.out | exact below_drewN HB3.out _)
          replace p4 : x3.length = 2 := Decidable.not_not.1 p4
          have p4' : ((x3.length : Int) != 2) = false := by simp; omega
          rw [p1, show ((-1 : Int) == -1 || pos (-1)) = true from rfl, decide_eq_true p4] at HA
          have P4 := Lib.hid p4
          clear p4
          go_wp2_with fail
          go_quiet ((go_at_call 31; with_reducible exact Calls.quiet_of_same (ptv p1 _)))
          go_wp2_with fail
          go_loopw [5] (fun i w5 => ∃ m : Nat, m ≤ x3.length ∧ i = .int .i64 m ∧ (x3.take m).all pos = true ∧ Below wr.heap.size wr w5 ∧ w5.heap[wr.heap.size]? = some (.cells #[.int .i64 x1, .int .i64 (-1), .slice A' x3.length c'] 41 (0, 0))) (fun i _ => x3.length - (intOf i).toNat)
          case atStart => exact ⟨0, Nat.zero_le _, rfl, rfl, by first | exact HB3.out | exact below_drewN HB3.out _, HXX.out⟩
          case round =>
            rename World => w5
            obtain ⟨m, hm, rfl, hall5, hb5, hX5⟩ := hrel
            have Hall5 := Lib.hid hall5
            clear hall5
            obtain ⟨e1, e2, e3⟩ := cells3 hX5
            have HX5 := Lib.hid hX5
            have HB5 := Lib.hid hb5
            have hn5 := (H3 w5 hb5).out
            clear hX5 hb5
            by_cases hlt5 : m < x3.length
            · obtain ⟨ad, z, rfl, -, hz, hcz⟩ := hn5 m hlt5
              have HZ := Lib.hid (all_step x3 pos m z hz)
              have HZ2 := Lib.hid hz
              clear hz hn5
              cases p5 : pos z
              · have HF5 := Lib.hid (all_false x3 pos m z HZ2.out p5)
                go_wp2_with (go_at_call 31; refine (ptv p5 _).mono ?_; rintro e w9 ⟨rfl, hw9⟩; obtain rfl := hw9.symm)
                go_ret
                exact fin _ (by rw [HA.out, HF5.out]; simp) HB5.out
              · go_wp2_with (go_at_call 31; refine (ptv p5 _).mono ?_; rintro e w9 ⟨rfl, hw9⟩; obtain rfl := hw9.symm)
                go_roundw
                case rel => exact ⟨m + 1, by omega, by go_num, by rw [HZ.out, Hall5.out, p5]; rfl, HB5.out, HX5.out⟩
                case measure => simp [intOf]; omega
            · have hme : m = x3.length := by omega
              subst hme
              rw [List.take_length] at Hall5
              clear fin hn5
              go_wp2_with fail
              refine ⟨⟨0 + 1, by omega, by go_num, by rw [HS.out, Hall.out, HA.out, Hall5.out]; simp, nxtB _ HB5.out⟩, ?_⟩
              simp only [intOf]; omega
        · have hm2 : (x2 != -1) = true := by simpa using hm1
          have hm5 : (x2 == -1) = false := by simpa using hm1
          clear hm1
          cases p3 : pos x2
          · rw [p1, hm5, p3] at HA
            go_wp2_with fail
            go_quiet (first | (go_at_call 31; with_reducible exact Calls.quiet_of_same (ptv p1 _)) | (go_at_call 31; with_reducible exact Calls.quiet_of_same (ptv p3 _)))
            go_wp2
            go_ret
            exact fin _ (by rw [HA.out]; rfl) (by first | exact HB3.out | exact below_drewN HB3.out _)
          by_cases p4 : ¬ x3.length = 2
          · have p4' : ((x3.length : Int) != 2) = true := by simp; omega
            rw [p1, hm5, p3, decide_eq_false p4] at HA
            clear p4
            go_wp2_with fail
            go_quiet (first | (go_at_call 31; with_reducible exact Calls.quiet_of_same (ptv p1 _)) | (go_at_call 31; with_reducible exact Calls.quiet_of_same (ptv p3 _)))
            go_wp2
            go_ret
            exact fin _ (by rw [HA.out]; simp) (by first | exact HB3.out | exact below_drewN HB3.out _)
          replace p4 : x3.length = 2 := Decidable.not_not.1 p4
          have p4' : ((x3.length : Int) != 2) = false := by simp; omega
          rw [p1, hm5, p3, decide_eq_true p4] at HA
          have P4 := Lib.hid p4
          clear p4
          go_wp2_with fail
          go_quiet (first | (go_at_call 31; with_reducible exact Calls.quiet_of_same (ptv p1 _)) | (go_at_call 31; with_reducible exact Calls.quiet_of_same (ptv p3 _)))
          go_wp2_with fail
          go_loopw [5] (fun i w5 => ∃ m : Nat, m ≤ x3.length ∧ i = .int .i64 m ∧ (x3.take m).all pos = true ∧ Below wr.heap.size wr w5 ∧ w5.heap[wr.heap.size]? = some (.cells #[.int .i64 x1, .int .i64 x2, .slice A' x3.length c'] 41 (0, 0))) (fun i _ => x3.length - (intOf i).toNat)
          case atStart => exact ⟨0, Nat.zero_le _, rfl, rfl, by first | exact HB3.out | exact below_drewN HB3.out _, HXX.out⟩
          case round =>
            rename World => w5
            obtain ⟨m, hm, rfl, hall5, hb5, hX5⟩ := hrel
            have Hall5 := Lib.hid hall5
            clear hall5
            obtain ⟨e1, e2, e3⟩ := cells3 hX5
            have HX5 := Lib.hid hX5
            have HB5 := Lib.hid hb5
            have hn5 := (H3 w5 hb5).out
            clear hX5 hb5
            by_cases hlt5 : m < x3.length
            · obtain ⟨ad, z, rfl, -, hz, hcz⟩ := hn5 m hlt5
              have HZ := Lib.hid (all_step x3 pos m z hz)
              have HZ2 := Lib.hid hz
              clear hz hn5
              cases p5 : pos z
              · have HF5 := Lib.hid (all_false x3 pos m z HZ2.out p5)
                go_wp2_with (go_at_call 31; refine (ptv p5 _).mono ?_; rintro e w9 ⟨rfl, hw9⟩; obtain rfl := hw9.symm)
                go_ret
                exact fin _ (by rw [HA.out, HF5.out]; simp) HB5.out
              · go_wp2_with (go_at_call 31; refine (ptv p5 _).mono ?_; rintro e w9 ⟨rfl, hw9⟩; obtain rfl := hw9.symm)
                go_roundw
                case rel => exact ⟨m + 1, by omega, by go_num, by rw [HZ.out, Hall5.out, p5]; rfl, HB5.out, HX5.out⟩
                case measure => simp [intOf]; omega
            · have hme : m = x3.length := by omega
              subst hme
              rw [List.take_length] at Hall5
              clear fin hn5
              go_wp2_with fail
              refine ⟨⟨0 + 1, by omega, by go_num, by rw [HS.out, Hall.out, HA.out, Hall5.out]; simp, nxtB _ HB5.out⟩, ?_⟩
              simp only [intOf]; omega
      · obtain ⟨y, hy⟩ : ∃ y, xs[j]? = some y := ⟨_, List.getElem?_eq_getElem (by omega)⟩
        obtain ⟨_, _, d1, -⟩ := hat.at_ hy
        have hlj : j < xs.length := by omega
        have hlz : (j : Int) < (xs.length : Int) := by omega
        have hwr : IntKind.i64.wrap (j : Int) = (j : Int) := by rw [IntKind.wrap_i64]; omega
        have HA := Lib.hid (okAt_succ hy hx)
        have d2 := (hd ⟨b, off + j * 3, none⟩ rfl).trans d1
        generalize y.1 = y1 at d1 d2 HA
        clear h hx hy hat
        cases p1 : pos x1
        · rw [p1] at HA
          go_wp2_with fail
          go_quiet ((go_at_call 31; with_reducible exact Calls.quiet_of_same (ptv p1 _)))
          go_wp2
          go_ret
          exact fin _ (by rw [HA.out]; rfl) (by first | exact HB3.out | exact below_drewN HB3.out _)
        by_cases p2 : ¬ y1 < x1
        · have p2' : x1 ≤ y1 := by omega
          rw [p1, decide_eq_false p2] at HA
          go_wp2_with fail
          go_quiet ((go_at_call 31; with_reducible exact Calls.quiet_of_same (ptv p1 _)))
          go_wp2
          go_ret
          exact fin _ (by rw [HA.out]; rfl) (by first | exact HB3.out | exact below_drewN HB3.out _)
        replace p2 : y1 < x1 := by omega
        by_cases hm1 : x2 = -1
        · subst hm1
          by_cases p4 : ¬ x3.length = 2
          · have p4' : ((x3.length : Int) != 2) = true := by simp; omega
            rw [p1, decide_eq_true p2, show ((-1 : Int) == -1 || pos (-1)) = true from rfl, decide_eq_false p4] at HA
            clear p4
            go_wp2_with fail
            go_quiet ((go_at_call 31; with_reducible exact Calls.quiet_of_same (ptv p1 _)))
            go_wp2
            go_ret
            exact fin _ (by rw [HA.out]; simp) (by first | exact HB3.out | exact below_drewN HB3.out _)
          replace p4 : x3.length = 2 := Decidable.not_not.1 p4
          have p4' : ((x3.length : Int) != 2) = false := by simp; omega
          rw [p1, decide_eq_true p2, show ((-1 : Int) == -1 || pos (-1)) = true from rfl, decide_eq_true p4] at HA
          have P4 := Lib.hid p4
          clear p4
          go_wp2_with fail
          go_quiet ((go_at_call 31; with_reducible exact Calls.quiet_of_same (ptv p1 _)))
          go_wp2_with fail
          go_loopw [5] (fun i w5 => ∃ m : Nat, m ≤ x3.length ∧ i = .int .i64 m ∧ (x3.take m).all pos = true ∧ Below wr.heap.size wr w5 ∧ w5.heap[wr.heap.size]? = some (.cells #[.int .i64 x1, .int .i64 (-1), .slice A' x3.length c'] 41 (0, 0))) (fun i _ => x3.length - (intOf i).toNat)
          case atStart => exact ⟨0, Nat.zero_le _, rfl, rfl, by first | exact HB3.out | exact below_drewN HB3.out _, HXX.out⟩
          case round =>
            rename World => w5
            obtain ⟨m, hm, rfl, hall5, hb5, hX5⟩ := hrel
            have Hall5 := Lib.hid hall5
            clear hall5
            obtain ⟨e1, e2, e3⟩ := cells3 hX5
            have HX5 := Lib.hid hX5
            have HB5 := Lib.hid hb5
            have hn5 := (H3 w5 hb5).out
            clear hX5 hb5
            by_cases hlt5 : m < x3.length
            · obtain ⟨ad, z, rfl, -, hz, hcz⟩ := hn5 m hlt5
              have HZ := Lib.hid (all_step x3 pos m z hz)
              have HZ2 := Lib.hid hz
              clear hz hn5
              cases p5 : pos z
              · have HF5 := Lib.hid (all_false x3 pos m z HZ2.out p5)
                go_wp2_with (go_at_call 31; refine (ptv p5 _).mono ?_; rintro e w9 ⟨rfl, hw9⟩; obtain rfl := hw9.symm)
                go_ret
                exact fin _ (by rw [HA.out, HF5.out]; simp) HB5.out
              · go_wp2_with (go_at_call 31; refine (ptv p5 _).mono ?_; rintro e w9 ⟨rfl, hw9⟩; obtain rfl := hw9.symm)
                go_roundw
                case rel => exact ⟨m + 1, by omega, by go_num, by rw [HZ.out, Hall5.out, p5]; rfl, HB5.out, HX5.out⟩
                case measure => simp [intOf]; omega
            · have hme : m = x3.length := by omega
              subst hme
              rw [List.take_length] at Hall5
              clear fin hn5
              go_wp2_with fail
              refine ⟨⟨j + 1 + 1, by omega, by go_num, by rw [HS.out, Hall.out, HA.out, Hall5.out]; simp, nxtB _ HB5.out⟩, ?_⟩
              simp only [intOf]; omega
        · have hm2 : (x2 != -1) = true := by simpa using hm1
          have hm5 : (x2 == -1) = false := by simpa using hm1
          clear hm1
          cases p3 : pos x2
          · rw [p1, decide_eq_true p2, hm5, p3] at HA
            go_wp2_with fail
            go_quiet (first | (go_at_call 31; with_reducible exact Calls.quiet_of_same (ptv p1 _)) | (go_at_call 31; with_reducible exact Calls.quiet_of_same (ptv p3 _)))
            go_wp2
            go_ret
            exact fin _ (by rw [HA.out]; rfl) (by first | exact HB3.out | exact below_drewN HB3.out _)
          by_cases p4 : ¬ x3.length = 2
          · have p4' : ((x3.length : Int) != 2) = true := by simp; omega
            rw [p1, decide_eq_true p2, hm5, p3, decide_eq_false p4] at HA
            clear p4
            go_wp2_with fail
            go_quiet (first | (go_at_call 31; with_reducible exact Calls.quiet_of_same (ptv p1 _)) | (go_at_call 31; with_reducible exact Calls.quiet_of_same (ptv p3 _)))
            go_wp2
            go_ret
            exact fin _ (by rw [HA.out]; simp) (by first | exact HB3.out | exact below_drewN HB3.out _)
          replace p4 : x3.length = 2 := Decidable.not_not.1 p4
          have p4' : ((x3.length : Int) != 2) = false := by simp; omega
          rw [p1, decide_eq_true p2, hm5, p3, decide_eq_true p4] at HA
          have P4 := Lib.hid p4
          clear p4
          go_wp2_with fail
          go_quiet (first | (go_at_call 31; with_reducible exact Calls.quiet_of_same (ptv p1 _)) | (go_at_call 31; with_reducible exact Calls.quiet_of_same (ptv p3 _)))
          go_wp2_with fail
          go_loopw [5] (fun i w5 => ∃ m : Nat, m ≤ x3.length ∧ i = .int .i64 m ∧ (x3.take m).all pos = true ∧ Below wr.heap.size wr w5 ∧ w5.heap[wr.heap.size]? = some (.cells #[.int .i64 x1, .int .i64 x2, .slice A' x3.length c'] 41 (0, 0))) (fun i _ => x3.length - (intOf i).toNat)
          case atStart => exact ⟨0, Nat.zero_le _, rfl, rfl, by first | exact HB3.out | exact below_drewN HB3.out _, HXX.out⟩
          case round =>
            rename World => w5
            obtain ⟨m, hm, rfl, hall5, hb5, hX5⟩ := hrel
            have Hall5 := Lib.hid hall5
            clear hall5
            obtain ⟨e1, e2, e3⟩ := cells3 hX5
            have HX5 := Lib.hid hX5
            have HB5 := Lib.hid hb5
            have hn5 := (H3 w5 hb5).out
            clear hX5 hb5
            by_cases hlt5 : m < x3.length
            · obtain ⟨ad, z, rfl, -, hz, hcz⟩ := hn5 m hlt5
              have HZ := Lib.hid (all_step x3 pos m z hz)
              have HZ2 := Lib.hid hz
              clear hz hn5
              cases p5 : pos z
              · have HF5 := Lib.hid (all_false x3 pos m z HZ2.out p5)
                go_wp2_with (go_at_call 31; refine (ptv p5 _).mono ?_; rintro e w9 ⟨rfl, hw9⟩; obtain rfl := hw9.symm)
                go_ret
                exact fin _ (by rw [HA.out, HF5.out]; simp) HB5.out
              · go_wp2_with (go_at_call 31; refine (ptv p5 _).mono ?_; rintro e w9 ⟨rfl, hw9⟩; obtain rfl := hw9.symm)
                go_roundw
                case rel => exact ⟨m + 1, by omega, by go_num, by rw [HZ.out, Hall5.out, p5]; rfl, HB5.out, HX5.out⟩
                case measure => simp [intOf]; omega
            · have hme : m = x3.length := by omega
              subst hme
              rw [List.take_length] at Hall5
              clear fin hn5
              go_wp2_with fail
              refine ⟨⟨j + 1 + 1, by omega, by go_num, by rw [HS.out, Hall.out, HA.out, Hall5.out]; simp, nxtB _ HB5.out⟩, ?_⟩
              simp only [intOf]; omega
    · clear h
      go_wp2
      go_ret
      have : k = xs.length := by omega
      subst this
      exact ⟨ret_bool (by rw [HV.out, Hall.out, Bool.and_true]), hb⟩
theorem rv_impl (B : Nat) (A : Option Addr) (c : Nat) (xs : List Nod) (hl : xs.length ≤ c) (hc : c ≤ maxLen) (w : World) (hB : B ≤ w.heap.size) (h : NodAt w B A xs) :
    Calls Try.prog 12 #[.slice A xs.length c] w fun e w' => e = .returned (.bool (rgVal xs)) ∧ Below w.heap.size w w' := by
  unfold maxLen at hc
  by_cases hlen : 10 < xs.length
  · have HV := Lib.hid (show rgVal xs = false from by unfold rgVal; rw [decide_eq_false (by omega)]; rfl)
    clear h
    go_enter Try.func12, Try.ntmps12
    go_wp2
    go_ret
    exact ⟨ret_bool HV.out.symm, Below.refl _ _⟩
  have HV := Lib.hid (show rgVal xs = (true && okTo xs xs.length) from by unfold rgVal; rw [decide_eq_true (by omega)])
  have hlen' : ¬ (10 : Int) < (xs.length : Int) := by omega
  go_enter Try.func12, Try.ntmps12
  go_wp2_with fail
  go_loopw [10] (fun i wr => ∃ k : Nat, k ≤ xs.length ∧ i = .int .i64 k ∧ okTo xs k = true ∧ Below w.heap.size w wr) (fun i _ => xs.length - (intOf i).toNat)
  case atStart => exact ⟨0, Nat.zero_le _, rfl, rfl, Below.refl _ _⟩
  case round =>
    obtain ⟨k, hk, rfl, hall, hb⟩ := hrel
    have Hall := Lib.hid hall
    clear hall
    by_cases hlt : k < xs.length
    · obtain ⟨b, off, rfl⟩ := h.some_ (by omega)
      obtain ⟨x, hx⟩ : ∃ x, xs[k]? = some x := ⟨_, List.getElem?_eq_getElem hlt⟩
      have hat := h.below (hb.mono hB)
      obtain ⟨A', c', c1, c2, c3, h1, h2, h3⟩ := hat.at_ hx
      obtain ⟨x1, x2, x3⟩ := x
      simp only at c1 c2 c3 h1 h3
      have HS := Lib.hid (okTo_succ xs k)
      have HF := Lib.hid (ok_false xs k hlt)
      have hbl : b < wr.heap.size := Nat.lt_of_lt_of_le (hat.lt hx) (Nat.le_trans hB hb.size)
      obtain ⟨O, hO⟩ : ∃ O, O = Obj.cells #[.int .i64 x1, .int .i64 x2, .slice A' x3.length c'] 41 (0, 0) := ⟨_, rfl⟩
      have hb3 : Below wr.heap.size wr (wr.alloc O) := (Below.refl _ wr).alloc (Nat.le_refl _) O
      have hX : (wr.alloc O).heap[wr.heap.size]? = some O := alloc_top wr O
      have H3 := fun (W : World) (hW : Below wr.heap.size wr W) => Lib.hid (h3.below (hW.mono (Nat.le_trans hB hb.size)))
      have hm3 : x3.length ≤ maxLen := Nat.le_trans h1 h2
      have nxtB := fun (W : World) (hW : Below wr.heap.size wr W) => below_next (w1 := wr) hb hW
      have fin : ∀ (W : World), okAt xs k = false → Below wr.heap.size wr W → (Ending.returned (.bool false) = Ending.returned (.bool (rgVal xs)) ∧ Below w.heap.size w W) := fun W hf hW =>
        ⟨ret_bool (by rw [HV.out, HF.out hf, Bool.and_false]), nxtB W hW⟩
      have HB3 := Lib.hid hb3
      have HXX := Lib.hid hX
      rw [hO] at HB3 HXX
      have hd : ∀ p : Addr, p.block = b → ((wr.alloc O).cell? p) = wr.cell? p := fun p hp => hb3.cell (by rw [hp]; exact hbl)
      rw [hO] at hd
      unfold maxLen at h2
      clear hb3 hX h3 hO hb
      rcases k with _ | j
      · have HA := Lib.hid (okAt_zero hx)
        rw [Nat.zero_mul, Nat.add_zero] at c1 c2 c3
        clear h hx hat
        rw [show ((0 : Nat) : Int) = 0 from rfl]
        cases p1 : pos x1
        · rw [p1] at HA
          go_wp2_with fail
          go_quiet ((go_at_call 33; with_reducible exact Calls.quiet_of_same (okv p1 _)))
          go_wp2
          go_ret
          exact fin _ (by rw [HA.out]; rfl) (by first | exact HB3.out | exact below_drewN HB3.out _)
        by_cases hm1 : x2 = -1
        · subst hm1
          by_cases p4 : ¬ x3.length = 2
          · have p4' : ((x3.length : Int) != 2) = true := by simp; omega
            rw [p1, show ((-1 : Int) == -1 || pos (-1)) = true from rfl, decide_eq_false p4] at HA
            clear p4
            go_wp2_with fail
            go_quiet ((go_at_call 33; with_reducible exact Calls.quiet_of_same (okv p1 _)))
            go_wp2
            go_ret
            exact fin _ (by rw [HA.out]; simp) (by first | exact HB3.out | exact below_drewN HB3.out _)
          replace p4 : x3.length = 2 := Decidable.not_not.1 p4
          have p4' : ((x3.length : Int) != 2) = false := by simp; omega
          rw [p1, show ((-1 : Int) == -1 || pos (-1)) = true from rfl, decide_eq_true p4] at HA
          have P4 := Lib.hid p4
          clear p4
          cases p5 : x3.all pos
          all_goals
            rw [p5] at HA
            go_wp2_with fail
            go_quiet ((go_at_call 33; with_reducible exact Calls.quiet_of_same (okv p1 _)))
            go_wp2_with (go_at_call 34; refine (posv p5 hm3 _ (H3 _ (by first | exact HB3.out | exact below_drewN HB3.out _)).out).mono ?_; rintro e w9 ⟨rfl, hw9⟩; obtain rfl := hw9.symm)
          · go_ret
            exact fin _ (by rw [HA.out]; simp) (by first | exact HB3.out | exact below_drewN HB3.out _)
          · clear fin
            go_roundw
            case rel => exact ⟨0 + 1, by omega, by go_num, by rw [HS.out, Hall.out, HA.out]; simp, nxtB _ (by first | exact HB3.out | exact below_drewN HB3.out _)⟩
            case measure => simp [intOf]; omega
        · have hm2 : (x2 != -1) = true := by simpa using hm1
          have hm5 : (x2 == -1) = false := by simpa using hm1
          clear hm1
          cases p3 : pos x2
          · rw [p1, hm5, p3] at HA
            go_wp2_with fail
            go_quiet (first | (go_at_call 33; with_reducible exact Calls.quiet_of_same (okv p1 _)) | (go_at_call 33; with_reducible exact Calls.quiet_of_same (okv p3 _)))
            go_wp2
            go_ret
            exact fin _ (by rw [HA.out]; rfl) (by first | exact HB3.out | exact below_drewN HB3.out _)
          by_cases p4 : ¬ x3.length = 2
          · have p4' : ((x3.length : Int) != 2) = true := by simp; omega
            rw [p1, hm5, p3, decide_eq_false p4] at HA
            clear p4
            go_wp2_with fail
            go_quiet (first | (go_at_call 33; with_reducible exact Calls.quiet_of_same (okv p1 _)) | (go_at_call 33; with_reducible exact Calls.quiet_of_same (okv p3 _)))
            go_wp2
            go_ret
            exact fin _ (by rw [HA.out]; simp) (by first | exact HB3.out | exact below_drewN HB3.out _)
          replace p4 : x3.length = 2 := Decidable.not_not.1 p4
          have p4' : ((x3.length : Int) != 2) = false := by simp; omega
          rw [p1, hm5, p3, decide_eq_true p4] at HA
          have P4 := Lib.hid p4
          clear p4
          cases p5 : x3.all pos
          all_goals
            rw [p5] at HA
            go_wp2_with fail
            go_quiet (first | (go_at_call 33; with_reducible exact Calls.quiet_of_same (okv p1 _)) | (go_at_call 33; with_reducible exact Calls.quiet_of_same (okv p3 _)))
            go_wp2_with (go_at_call 34; refine (posv p5 hm3 _ (H3 _ (by first | exact HB3.out | exact below_drewN HB3.out _)).out).mono ?_; rintro e w9 ⟨rfl, hw9⟩; obtain rfl := hw9.symm)
          · go_ret
            exact fin _ (by rw [HA.out]; simp) (by first | exact HB3.out | exact below_drewN HB3.out _)
          · clear fin
            go_roundw
            case rel => exact ⟨0 + 1, by omega, by go_num, by rw [HS.out, Hall.out, HA.out]; simp, nxtB _ (by first | exact HB3.out | exact below_drewN HB3.out _)⟩
            case measure => simp [intOf]; omega
      · obtain ⟨y, hy⟩ : ∃ y, xs[j]? = some y := ⟨_, List.getElem?_eq_getElem (by omega)⟩
        obtain ⟨_, _, d1, -⟩ := hat.at_ hy
        have hlj : j < xs.length := by omega
        have hlz : (j : Int) < (xs.length : Int) := by omega
        have hwr : IntKind.i64.wrap (j : Int) = (j : Int) := by rw [IntKind.wrap_i64]; omega
        have HA := Lib.hid (okAt_succ hy hx)
        have d2 := (hd ⟨b, off + j * 3, none⟩ rfl).trans d1
        generalize y.1 = y1 at d1 d2 HA
        clear h hx hy hat
        cases p1 : pos x1
        · rw [p1] at HA
          go_wp2_with fail
          go_quiet ((go_at_call 33; with_reducible exact Calls.quiet_of_same (okv p1 _)))
          go_wp2
          go_ret
          exact fin _ (by rw [HA.out]; rfl) (by first | exact HB3.out | exact below_drewN HB3.out _)
        by_cases p2 : ¬ y1 < x1
        · have p2' : x1 ≤ y1 := by omega
          rw [p1, decide_eq_false p2] at HA
          go_wp2_with fail
          go_quiet ((go_at_call 33; with_reducible exact Calls.quiet_of_same (okv p1 _)))
          go_wp2
          go_ret
          exact fin _ (by rw [HA.out]; rfl) (by first | exact HB3.out | exact below_drewN HB3.out _)
        replace p2 : y1 < x1 := by omega
        by_cases hm1 : x2 = -1
        · subst hm1
          by_cases p4 : ¬ x3.length = 2
          · have p4' : ((x3.length : Int) != 2) = true := by simp; omega
            rw [p1, decide_eq_true p2, show ((-1 : Int) == -1 || pos (-1)) = true from rfl, decide_eq_false p4] at HA
            clear p4
            go_wp2_with fail
            go_quiet ((go_at_call 33; with_reducible exact Calls.quiet_of_same (okv p1 _)))
            go_wp2
            go_ret
            exact fin _ (by rw [HA.out]; simp) (by first | exact HB3.out | exact below_drewN HB3.out _)
          replace p4 : x3.length = 2 := Decidable.not_not.1 p4
          have p4' : ((x3.length : Int) != 2) = false := by simp; omega
          rw [p1, decide_eq_true p2, show ((-1 : Int) == -1 || pos (-1)) = true from rfl, decide_eq_true p4] at HA
          have P4 := Lib.hid p4
          clear p4
          cases p5 : x3.all pos
          all_goals
            rw [p5] at HA
            go_wp2_with fail
            go_quiet ((go_at_call 33; with_reducible exact Calls.quiet_of_same (okv p1 _)))
            go_wp2_with (go_at_call 34; refine (posv p5 hm3 _ (H3 _ (by first | exact HB3.out | exact below_drewN HB3.out _)).out).mono ?_; rintro e w9 ⟨rfl, hw9⟩; obtain rfl := hw9.symm)
          · go_ret
            exact fin _ (by rw [HA.out]; simp) (by first | exact HB3.out | exact below_drewN HB3.out _)
          · clear fin
            go_roundw
            case rel => exact ⟨j + 1 + 1, by omega, by go_num, by rw [HS.out, Hall.out, HA.out]; simp, nxtB _ (by first | exact HB3.out | exact below_drewN HB3.out _)⟩
            case measure => simp [intOf]; omega
        · have hm2 : (x2 != -1) = true := by simpa using hm1
          have hm5 : (x2 == -1) = false := by simpa using hm1
          clear hm1
          cases p3 : pos x2
          · rw [p1, decide_eq_true p2, hm5, p3] at HA
            go_wp2_with fail
            go_quiet (first | (go_at_call 33; with_reducible exact Calls.quiet_of_same (okv p1 _)) | (go_at_call 33; with_reducible exact Calls.quiet_of_same (okv p3 _)))
            go_wp2
            go_ret
            exact fin _ (by rw [HA.out]; rfl) (by first | exact HB3.out | exact below_drewN HB3.out _)
          by_cases p4 : ¬ x3.length = 2
          · have p4' : ((x3.length : Int) != 2) = true := by simp; omega
            rw [p1, decide_eq_true p2, hm5, p3, decide_eq_false p4] at HA
            clear p4
            go_wp2_with fail
            go_quiet (first | (go_at_call 33; with_reducible exact Calls.quiet_of_same (okv p1 _)) | (go_at_call 33; with_reducible exact Calls.quiet_of_same (okv p3 _)))
            go_wp2
            go_ret
            exact fin _ (by rw [HA.out]; simp) (by first | exact HB3.out | exact below_drewN HB3.out _)
          replace p4 : x3.length = 2 := Decidable.not_not.1 p4
          have p4' : ((x3.length : Int) != 2) = false := by simp; omega
          rw [p1, decide_eq_true p2, hm5, p3, decide_eq_true p4] at HA
          have P4 := Lib.hid p4
          clear p4
          cases p5 : x3.all pos
          all_goals
            rw [p5] at HA
            go_wp2_with fail
            go_quiet (first | (go_at_call 33; with_reducible exact Calls.quiet_of_same (okv p1 _)) | (go_at_call 33; with_reducible exact Calls.quiet_of_same (okv p3 _)))
            go_wp2_with (go_at_call 34; refine (posv p5 hm3 _ (H3 _ (by first | exact HB3.out | exact below_drewN HB3.out _)).out).mono ?_; rintro e w9 ⟨rfl, hw9⟩; obtain rfl := hw9.symm)
          · go_ret
            exact fin _ (by rw [HA.out]; simp) (by first | exact HB3.out | exact below_drewN HB3.out _)
          · clear fin
            go_roundw
            case rel => exact ⟨j + 1 + 1, by omega, by go_num, by rw [HS.out, Hall.out, HA.out]; simp, nxtB _ (by first | exact HB3.out | exact below_drewN HB3.out _)⟩
            case measure => simp [intOf]; omega
    · clear h
      go_wp2
      go_ret
      have : k = xs.length := by omega
      subst this
      exact ⟨ret_bool (by rw [HV.out, Hall.out]; rfl), hb⟩
end Go.Proofs.Ytmhneigglmingaa
