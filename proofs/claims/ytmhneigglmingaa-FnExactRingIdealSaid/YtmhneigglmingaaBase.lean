/- Words for memory and small lemmas for the walks over this seat's program: a slice of integers that reads as a list, a row of the call's own, endings. -/
import Derived.Test.YtmhneigglmingaaRows
import Derived.Test.YtmhneigglmingaaPlain
import Derived.WalkKit
import Derived.WalkSpells
import Derived.WalkLawsBesides
import Derived.Lib.Hide
import Derived.Outline
import Derived.BigQuiet
import Derived.Deep.QuietTactic
import Derived.Deep.AppendLies
namespace Go.Proofs.Ytmhneigglmingaa
open Go.RowKit
theorem ret_int {k : IntKind} {a b : Int} (h : a = b) : Ending.returned (.int k a) = .returned (.int k b) := by rw [h]
theorem ret_bool {a b : Bool} (h : a = b) : Ending.returned (.bool a) = .returned (.bool b) := by rw [h]

/-- A slice's address under which the numbers xs lie, below block B. -/
def NumsAt (kd : IntKind) (w : World) (B : Nat) (A : Option Addr) (xs : List Int) : Prop :=
  ∀ k, k < xs.length → ∃ (ad : Addr) (x : Int), A = some ad ∧ ad.block < B ∧ xs[k]? = some x ∧ w.cell? (ad.add k) = some (.int kd x)

theorem block_add (a : Addr) (n : Nat) : (a.add n).block = a.block := by unfold Addr.add; split <;> rfl
theorem drewN_more {w wr : World} {m : Nat} (h : ∃ n, wr = w.drewN n) : ∃ n, wr.drewN m = w.drewN n := by
  obtain ⟨n, rfl⟩ := h; exact ⟨n + m, by rw [World.drewN_drewN]⟩
theorem below_draw {w w' : World} (h : ∃ n, w' = w.drewN n) : Below w.heap.size w w' := by
  obtain ⟨n, rfl⟩ := h; exact ⟨rfl, rfl, rfl, Nat.le_refl _, fun _ _ => rfl⟩
theorem below_undrew {w w' : World} (h : Below w.drew.heap.size w.drew w') : Below w.heap.size w w' := ⟨h.os, h.tape, h.output, h.size, h.block⟩
theorem addr_zero (a : Addr) : a.add 0 = a := by unfold Addr.add; simp
theorem addr_succ (a : Addr) (j : Nat) : a.add (j + 1) = ⟨a.block, a.off + (j + 1), none⟩ := by unfold Addr.add; simp
theorem NumsAt.keep {kd : IntKind} {w w' : World} {B : Nat} {A : Option Addr} {xs : List Int} (h : NumsAt kd w B A xs) (hk : ∀ p : Addr, p.block < B → w'.cell? p = w.cell? p) : NumsAt kd w' B A xs := by
  intro k hlt
  obtain ⟨ad, x, e, hb, hx, hc⟩ := h k hlt
  exact ⟨ad, x, e, hb, hx, (hk _ (by rw [block_add]; exact hb)).trans hc⟩
theorem NumsAt.below {kd : IntKind} {w w' : World} {B : Nat} {A : Option Addr} {xs : List Int} (h : NumsAt kd w B A xs) (hb : Below B w w') : NumsAt kd w' B A xs := h.keep fun _ hp => hb.cell hp
theorem NumsAt.more {kd : IntKind} {w : World} {B B' : Nat} {A : Option Addr} {xs : List Int} (h : NumsAt kd w B A xs) (hB : B ≤ B') : NumsAt kd w B' A xs := by
  intro k hlt
  obtain ⟨ad, x, e, hb, hx, hc⟩ := h k hlt
  exact ⟨ad, x, e, by omega, hx, hc⟩
theorem NumsAt.drewN {kd : IntKind} {w : World} {B : Nat} {A : Option Addr} {xs : List Int} (h : NumsAt kd w B A xs) (n : Nat) : NumsAt kd (w.drewN n) B A xs := h
theorem NumsAt.nil {kd : IntKind} {w : World} {B : Nat} {A : Option Addr} : NumsAt kd w B A [] := fun k h => by simp at h

/-- The slice '.slice A xs.length c' is a row of ints of the call's own, in a block from 'base' on. -/
def OwnI (w : World) (base : Nat) (A : Option Addr) (c : Nat) (xs : List Int) : Prop :=
  w.ownsRow base 3 1 (.slice A xs.length c) xs.length (xs.map (Value.int .i64))
theorem OwnI.nums {w : World} {base : Nat} {A : Option Addr} {c : Nat} {xs : List Int} (h : OwnI w base A c xs) : NumsAt .i64 w w.heap.size A xs := by
  intro k hk
  obtain ⟨g, cap, hv, _, hlt⟩ := World.ownsRow.form h (by omega)
  have hA : A = some ⟨g, 0, none⟩ := by injection hv
  subst hA
  exact ⟨_, xs[k], rfl, hlt, List.getElem?_eq_getElem hk, World.ownsRow.cells h (g := g) rfl k _ (by simp [List.getElem?_eq_getElem hk])⟩
theorem OwnI.below {w w' : World} {base B : Nat} {A : Option Addr} {c : Nat} {xs : List Int} (h : OwnI w base A c xs) (hb : Below B w w') (hB : w.heap.size ≤ B) : OwnI w' base A c xs :=
  World.ownsRow.kept (row := some B) h ⟨hb.os, hb.tape, hb.output, hb.size, fun k hk _ => hb.block k (by omega)⟩
    (.inr fun e => by have := (World.ownsRow.lt h _ e).2; omega)
theorem OwnI.base {w : World} {base base' : Nat} {A : Option Addr} {c : Nat} {xs : List Int} (h : OwnI w base A c xs) (hB : base' ≤ base) : OwnI w base' A c xs := by
  refine ⟨h.1, ?_⟩
  rcases h.2 with h2 | ⟨g, cap, cur, hv, hg, r⟩
  · exact .inl h2
  · exact .inr ⟨g, cap, cur, hv, by omega, r⟩
theorem OwnI.len {w : World} {base : Nat} {A : Option Addr} {c : Nat} {xs : List Int} (h : OwnI w base A c xs) : xs.length ≤ c ∧ c ≤ maxLen := by
  rcases h.2 with ⟨hv, h2⟩ | ⟨g, cap, cur, hv, hg, _, h3, h4, _⟩
  · injection hv with _ _ h5; unfold maxLen; omega
  · injection hv with _ _ h5; omega
theorem bcell {w w1 : World} (hb : Below w.heap.size w w1) : (∀ b o, b < w.heap.size → w1.cell? ⟨b, o, none⟩ = w.cell? ⟨b, o, none⟩) ∧ (∀ b o, b < w.heap.size → w1.frozen? ⟨b, o, none⟩ = w.frozen? ⟨b, o, none⟩) :=
  ⟨fun b o h => hb.cell (p := ⟨b, o, none⟩) h, fun b o h => hb.frozen (p := ⟨b, o, none⟩) h⟩

theorem all_step {α : Type} (xs : List α) (p : α → Bool) (k : Nat) (x : α) (h : xs[k]? = some x) : (xs.take (k+1)).all p = ((xs.take k).all p && p x) := by
  rw [List.take_add_one, h, List.all_append]; simp
theorem all_false {α : Type} (xs : List α) (p : α → Bool) (k : Nat) (x : α) (h : xs[k]? = some x) (hp : p x = false) : xs.all p = false := by
  rw [List.all_eq_false]; exact ⟨x, List.mem_of_getElem? h, by simpa using hp⟩

/-- What a walk is told of a slice of numbers that came in. -/
def Arg (kd : IntKind) (w : World) (A : Option Addr) (c : Nat) (xs : List Int) : Prop :=
  xs.length ≤ c ∧ c ≤ maxLen ∧ NumsAt kd w w.heap.size A xs ∧ ∀ x ∈ xs, (Lit.int kd x).wf = true
theorem Arg.none_ {kd : IntKind} {w : World} : ∃ xs : List Int, xs.length = 0 ∧ Arg kd w none 0 xs := ⟨[], rfl, Nat.le_refl _, Nat.zero_le _, NumsAt.nil, fun _ h => by simp at h⟩
theorem Arg.row {kd : IntKind} {w : World} {x : Addr} {len cap : Nat} {zs : List Int} (hl : len ≤ cap) (hm : cap ≤ maxLen) (hz : zs.length = cap)
    (hcell : ∀ i, i < zs.length → w.cell? (x.add i) = some (.int kd (zs.getD i 0))) (hwz : ∀ n ∈ zs, (Lit.int kd n).wf = true) : ∃ xs : List Int, xs.length = len ∧ Arg kd w (some x) cap xs := by
  refine ⟨zs.take len, by simp; omega, by simp; omega, hm, fun k hk => ?_, fun n hn => hwz n (List.mem_of_mem_take hn)⟩
  have hk' : k < zs.length := by simp at hk; omega
  have hc := hcell k hk'
  refine ⟨x, zs.getD k 0, rfl, ?_, ?_, hc⟩
  · have := World.block_lt_of_cell? w _ hc
    rwa [block_add] at this
  · rw [List.getElem?_take]
    simp only [List.length_take] at hk
    rw [if_pos (by omega)]
    simp [List.getElem?_eq_getElem hk']
theorem wf_i64 {n : Int} (h : (Lit.int .i64 n).wf = true) : -9223372036854775808 ≤ n ∧ n ≤ 9223372036854775807 := by
  simpa [Lit.wf, IntKind.min, IntKind.max, IntKind.bits, IntKind.signed] using h
theorem wf_u8 {n : Int} (h : (Lit.int .u8 n).wf = true) : 0 ≤ n ∧ n ≤ 255 := by
  simpa [Lit.wf, IntKind.min, IntKind.max, IntKind.bits, IntKind.signed] using h
end Go.Proofs.Ytmhneigglmingaa
