/- Walks: slices.Clone of structs. -/
import Derived.Test.YtkjolmbcafonaaaDoorAppT
import Derived.OwnWalk
import Derived.Lib.SliceRun
namespace Go.Proofs.YtkjolmbcafonaaaDoor
open Go.RowKit
set_option maxHeartbeats 1000000
set_option linter.unusedVariables false
/-- A row of structs of the call's own comes back. -/
def MadeT (w : World) (xs : List Tri) (e : Ending) (w' : World) : Prop := ∃ (A : Option Addr) (c : Nat), e = .returned (.slice A xs.length c) ∧ OwnT w' w.heap.size A c xs ∧ Below w.heap.size w w'
theorem tris_one {w : World} {B : Nat} {A : Option Addr} {xs : List Tri} (h : TrisAt w B A xs) (h0 : 0 < xs.length) : ∃ b off, A = some ⟨b, off, none⟩ := by
  obtain ⟨b, off, x, y, z, e, _⟩ := h 0 h0
  exact ⟨b, off, e⟩
theorem cloneT_any (B : Nat) (A : Option Addr) (c : Nat) (xs : List Tri) (h0 : 0 < xs.length) (hl : xs.length ≤ 1048576) (w : World) (hB : B ≤ w.heap.size) (h : TrisAt w B A xs) :
    Calls Tryd.prog 30 #[.slice A xs.length c] w (MadeT w xs) := by
  obtain ⟨i0, hi, hz0, hz1, hz2⟩ := info_parts triInfo
  have HI := Lib.hid hi
  have HZ0 := Lib.hid hz0
  have HZ1 := Lib.hid hz1
  have HZ2 := Lib.hid hz2
  clear hi hz0 hz1 hz2
  obtain ⟨b, off, rfl⟩ := tris_one h h0
  have HE := Lib.hid (OwnT.empty w (Nat.le_refl w.heap.size))
  have hbz : Below w.heap.size w (w.alloc (.cells #[] 34)) := (Below.refl _ _).alloc (Nat.le_refl _) _
  have HS := Lib.hid ((h.below (hbz.mono hB)).src h0)
  have HBZ := Lib.hid hbz
  have hnil := Lib.run_eql_slice_nil (P := Tryd.prog) w 23 34 (some ⟨b, off, none⟩) xs.length c 0 0 Tryd.underlying23
  clear h hbz
  go_enter Tryd.func30, Tryd.ntmps30
  go_wp2_with (at_builtin; refine list_appT rfl Tryd.underlying23 HI.out HZ0.out HZ1.out HZ2.out (.tmp 5) (.tmp 6) rfl (xs := []) rfl rfl HE.out rfl HS.out (by simpa using hl) (by simp) ?_; intro A2 c2 w3 ho2 hg3 hat)
  go_ret
  exact ⟨A2, c2, rfl, ho2, Below.grown HBZ.out hg3 (by simp) (fun k e => by simp at e; omega)⟩
end Go.Proofs.YtkjolmbcafonaaaDoor
