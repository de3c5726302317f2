/- A law's argument that is a slice of structs of three integers, opened. -/
import Derived.Test.YtmhmnopmafdmaaaDoorTri
import Derived.Deep.Slices
import Derived.Deep.Fields
import Derived.ChangeSame
namespace Go.Proofs.YtmhmnopmafdmaaaDoor
open Go.RowKit Go.ChangeShapes Go.WideShapes Go.Deep
set_option maxHeartbeats 400000
set_option linter.unusedVariables false
def ArgT (w : World) (A : Option Addr) (c : Nat) (xs : List Tri) : Prop := xs.length ≤ c ∧ c ≤ maxLen ∧ TrisAt w w.heap.size A xs
theorem ArgT.none_ {w : World} : ∃ xs : List Tri, xs.length = 0 ∧ ArgT w none 0 xs := ⟨[], rfl, Nat.le_refl _, Nat.zero_le _, fun _ h => by simp at h⟩
theorem open_tris {H : Type} {enc : TypeId × Value → H} {P : Program} {w : World} {base : Nat} {spare : Nat → Bool} {held : Bool} {t e : TypeId} {fs : Array Field} {fuel : Nat} {cs : List Value} {x : DataW H × List MemPlace}
    (ht : P.underlying t = some (.slice e)) (he : P.underlying e = some (.struct fs)) (hone : oneCellFields P fs = true) (hC : P.cellsOf e = 3) (h3 : fs.size = 3)
    (hint : ∀ j, j < 3 → (fs[j]?).map (fun f => P.underlying f.type) = some (some (.int .i64))) (h : DataW.trod enc P w base spare held fuel t cs = some x) :
    cs = [.slice none 0 0] ∨ ∃ (a : Addr) (len cap : Nat) (xs : List Tri), cs = [.slice (some a) len cap] ∧ xs.length = len ∧ ArgT w (some a) cap xs := by
  rcases open_slice ht h with h0 | ⟨a, len, cap, m, n, D, Pl, hcs, hb, hl, hm, hmm, hx, hi⟩
  · exact .inl h0.1
  right
  have hlm : len ≤ m := by rw [hmm]; split <;> omega
  have each : ∀ i, i < len → ∃ t : Tri, w.cell? (a.add (i * 3)) = some (.int .i64 t.1) ∧ w.cell? (a.add (i * 3 + 1)) = some (.int .i64 t.2.1) ∧ w.cell? (a.add (i * 3 + 2)) = some (.int .i64 t.2.2) := by
    intro i hi'
    obtain ⟨cs', hc, ht'⟩ := hi i (by omega)
    rw [hC] at hc
    obtain ⟨ys, n', -, -, hlen, hyl, hf⟩ := DataW.trod_struct he ht'
    obtain ⟨-, hcl, hat⟩ := World.cells?_some hc
    have one : ∀ j, j < 3 → ∃ z : Int, w.cell? (a.add (i * 3 + j)) = some (.int .i64 z) := by
      intro j hj
      have hfj : fs[j]? = some (fs[j]'(by omega)) := Array.getElem?_eq_getElem (by omega)
      obtain ⟨ho, hk⟩ := hone_of hone j _ hfj
      have h1 := hf j _ hfj
      have h2 := hint j hj
      rw [hfj] at h2
      simp only [Option.map_some, Option.some.injEq] at h2
      rw [ho, hk] at h1
      have hd : (cs'.drop j).take 1 = [cs'[j]'(by omega)] := by rw [List.drop_eq_getElem_cons (by omega)]; rfl
      rw [hd, List.getElem?_eq_getElem (by omega : j < ys.length)] at h1
      obtain ⟨z, hz, -, -⟩ := DataW.trod_int h2 h1
      refine ⟨z, ?_⟩
      rw [← add_add, hat j hj, List.getElem?_eq_getElem (by omega : j < cs'.length)]
      injection hz with hz
      rw [hz]
    obtain ⟨z0, e0⟩ := one 0 (by omega)
    obtain ⟨z1, e1⟩ := one 1 (by omega)
    obtain ⟨z2, e2⟩ := one 2 (by omega)
    exact ⟨(z0, z1, z2), e0, e1, e2⟩
  classical
  let g : Nat → Tri := fun i => if hi' : i < len then Classical.choose (each i hi') else (0, 0, 0)
  have hg : ∀ i, i < len → w.cell? (a.add (i * 3)) = some (.int .i64 (g i).1) ∧ w.cell? (a.add (i * 3 + 1)) = some (.int .i64 (g i).2.1) ∧ w.cell? (a.add (i * 3 + 2)) = some (.int .i64 (g i).2.2) := by
    intro i hi'
    have := Classical.choose_spec (each i hi')
    simpa only [g, dif_pos hi'] using this
  refine ⟨a, len, cap, (List.range len).map g, hcs, by simp, by simpa using hl, hm, ?_⟩
  intro k hk
  have hk' : k < len := by simpa using hk
  have c0 := (hg 0 (by omega)).1
  rw [Nat.zero_mul] at c0
  have a0 : a.add 0 = a := by unfold Addr.add; simp
  rw [a0] at c0
  have hs := World.cell?_spot c0
  obtain ⟨c1, c2, c3⟩ := hg k hk'
  have hadd : ∀ j, a.add j = ⟨a.block, a.off + j, none⟩ := by
    intro j
    unfold Addr.add
    split
    · next h => subst h; cases a; simp_all
    · rfl
  refine ⟨a.block, a.off, (g k).1, (g k).2.1, (g k).2.2, by have := hadd 0; rw [a0] at this; rw [this], ?_, by rw [List.getElem?_map, List.getElem?_range hk']; rfl, by rw [← hadd]; exact c1, by rw [Nat.add_assoc, ← hadd]; exact c2, by rw [Nat.add_assoc, ← hadd]; exact c3⟩
  exact World.block_lt_of_cell? w _ c0
end Go.Proofs.YtmhmnopmafdmaaaDoor
