/- Walks: errors.Is where its target is a sentinel: the sentinel itself, another one, nil (contracts after the guide's worked example on sentinels). -/
import Derived.Test.YtkjolmbcafonaaaDoorSeat
import Derived.LaidEql
import Derived.Stop.Asserts
import Derived.RowKitTokens
namespace Go.Proofs.YtkjolmbcafonaaaDoor
open Go.RowKit Go.Extern.Stop Go.Stop Go.Extern
set_option maxHeartbeats 1000000
set_option linter.unusedVariables false
theorem errTypeOf (v : Value) (w : World) : (Extern.ReflectliteType.typeOf #[.iface 79 v]).run Tryd.prog w = .ok (.iface 69 (.agg #[.pointer (some ⟨2, 79, none⟩)])) w := by kernel_rfl
theorem errComparable (w : World) : ((Extern.ReflectliteType.method fun t => do Go.Extern.Rtype.noPackHeld "Comparable" t; pure (.bool (← typeInfo t).comparable)) #[.agg #[.pointer (some ⟨2, 79, none⟩)]]).run Tryd.prog w = .ok (.bool true) w := by kernel_rfl
theorem errCallComparable (w : World) : (callFunc 58 #[.agg #[.pointer (some ⟨2, 79, none⟩)]]).run Tryd.prog w = .ok (.value (.bool true)) w := by
  have h := @run_callFunc_extern Tryd.prog 58 _ (Extern.ReflectliteType.method fun t => do Go.Extern.Rtype.noPackHeld "Comparable" t; pure (.bool (← typeInfo t).comparable)) Tryd.func58 (by kernel_rfl) (by kernel_rfl) (by kernel_rfl) (by kernel_rfl)
  rw [h, errComparable]; rfl
theorem errCallTypeOf (v : Value) (w : World) : (callFunc 37 #[.iface 79 v]).run Tryd.prog w = .ok (.value (.iface 69 (.agg #[.pointer (some ⟨2, 79, none⟩)]))) w := by
  have h := @run_callFunc_extern Tryd.prog 37 _ Extern.ReflectliteType.typeOf Tryd.func37 (by kernel_rfl) (by kernel_rfl) (by kernel_rfl) (by kernel_rfl)
  rw [h, errTypeOf]; rfl
theorem errMethodComparable (v : Value) (w : World) : (Go.method 217 69 v "Comparable").run Tryd.prog w = .ok (58, v) w := by kernel_rfl
theorem errComp : (Tryd.prog.info? 79).map (·.comparable) = some true := by kernel_rfl
theorem errSize : (Tryd.prog.info? 105).map (·.size) = some 1 := by kernel_rfl
theorem errNoIs (v : Value) (xT : TypeId) (w : World) : (Instr.typeAssert (.iface 79 v) xT 71 true).run Tryd.prog w = .ok (.tuple #[.nilIface, .bool false]) w := run_typeAssert_lacksB Tryd.underlying71 (by kernel_rfl) (by kernel_rfl) v xT w
theorem errNoUnwrap (v : Value) (xT : TypeId) (w : World) : (Instr.typeAssert (.iface 79 v) xT 74 true).run Tryd.prog w = .ok (.tuple #[.nilIface, .bool false]) w := run_typeAssert_lacksB Tryd.underlying74 (by kernel_rfl) (by kernel_rfl) v xT w
theorem errNoUnwraps (v : Value) (xT : TypeId) (w : World) : (Instr.typeAssert (.iface 79 v) xT 76 true).run Tryd.prog w = .ok (.tuple #[.nilIface, .bool false]) w := run_typeAssert_lacksB Tryd.underlying76 (by kernel_rfl) (by kernel_rfl) v xT w
theorem is_same (a : Addr) (w : World) :
    Calls Tryd.prog 31 #[.iface 79 (.pointer (some a)), .iface 79 (.pointer (some a))] w fun e w' => e = .returned (.bool true) ∧ w' = w := by
  obtain ⟨i, hi, hcmp⟩ := Option.map_eq_some_iff.1 errComp
  obtain ⟨j, hj, hjs⟩ := Option.map_eq_some_iff.1 errSize
  have tT := errCallTypeOf
  have cT := errCallComparable
  have mR := errMethodComparable
  have heq := run_eql_iface_ptr_same (P := Tryd.prog) w a Tryd.underlying44 Tryd.underlying79 hi hcmp hj
  go_enter Tryd.func31, Tryd.ntmps31
  go_wp2
  refine wp_loop_rounds 1 ?_
  rw [rounds_succ]
  go_wp2
  go_ret
  exact ⟨rfl, rfl⟩
theorem is_nil (b : Addr) (w : World) :
    Calls Tryd.prog 31 #[.nilIface, .iface 79 (.pointer (some b))] w fun e w' => e = .returned (.bool false) ∧ w' = w := by
  have hn := run_eql_iface_nil_left (P := Tryd.prog) w 79 (.pointer (some b)) Tryd.underlying44
  go_enter Tryd.func31, Tryd.ntmps31
  go_wp2
  go_ret
  exact ⟨rfl, rfl⟩
theorem is_other (a b : Addr) (ca cb : Array Value) (ta tb : TypeId) (w : World) (hne : a ≠ b) (ha : w.heap[a.block]? = some (.cells ca ta (0, 0))) (hb : w.heap[b.block]? = some (.cells cb tb (0, 0))) :
    Calls Tryd.prog 31 #[.iface 79 (.pointer (some a)), .iface 79 (.pointer (some b))] w fun e w' => e = .returned (.bool false) ∧ w' = w := by
  obtain ⟨i, hi, hcmp⟩ := Option.map_eq_some_iff.1 errComp
  obtain ⟨j, hj, hjs⟩ := Option.map_eq_some_iff.1 errSize
  have tT := errCallTypeOf
  have cT := errCallComparable
  have mR := errMethodComparable
  have nE := errNoIs
  have uE := errNoUnwrap
  have vE := errNoUnwraps
  have heq := run_eql_iface_ptr_other (P := Tryd.prog) w Tryd.underlying44 Tryd.underlying79 hi hcmp hj (by rw [hjs]; decide) hne ha hb
  go_enter Tryd.func31, Tryd.ntmps31
  go_wp2
  refine wp_loop_rounds 1 ?_
  rw [rounds_succ]
  go_wp2
  go_ret
  exact ⟨rfl, rfl⟩
/-- The two sentinels: what the variables hold; they are not the same. -/
structure Sent (w : World) (a0 a1 : Addr) : Prop where
  g0 : w.cell? ⟨0, 0, none⟩ = some (.iface 79 (.pointer (some a0)))
  g1 : w.cell? ⟨1, 0, none⟩ = some (.iface 79 (.pointer (some a1)))
  ne : a0 ≠ a1
  b0 : ∃ (c : Array Value) (t : TypeId), w.heap[a0.block]? = some (.cells c t (0, 0))
  b1 : ∃ (c : Array Value) (t : TypeId), w.heap[a1.block]? = some (.cells c t (0, 0))
theorem Sent.below {w w' : World} {a0 a1 : Addr} (h : Sent w a0 a1) (hb : Below w.heap.size w w') : Sent w' a0 a1 := by
  obtain ⟨g0, g1, ne, ⟨c0, t0, b0⟩, ⟨c1, t1, b1⟩⟩ := h
  exact ⟨(hb.cell (World.block_lt_of_cell? w _ g0)).trans g0, (hb.cell (World.block_lt_of_cell? w _ g1)).trans g1, ne, ⟨c0, t0, (hb.block _ (Array.getElem?_eq_some_iff.1 b0).1).trans b0⟩, ⟨c1, t1, (hb.block _ (Array.getElem?_eq_some_iff.1 b1).1).trans b1⟩⟩
end Go.Proofs.YtkjolmbcafonaaaDoor
