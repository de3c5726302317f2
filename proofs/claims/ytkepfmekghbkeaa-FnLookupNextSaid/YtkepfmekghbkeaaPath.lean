/- Walks: LookupPath of the implementation (an iterator that keeps its place in a captured variable, collected by slices.Collect). -/
import Derived.Test.YtkepfmekghbkeaaLnx
import Derived.RangeFuncNested
import Derived.RangeFuncBound
import Derived.RangeFuncCalls
import Derived.RangeFuncLeaves
import Derived.RangeFuncGives
import Derived.OwnWalkIn
import Derived.TacticsInMore
import Derived.LoopNIn
import Derived.LoopIn
import Derived.Shelf.Abstract
namespace Go.Proofs.Ytkepfmekghbkeaa
open Go.RowKit Go.Shelf
set_option maxHeartbeats 4000000
set_option linter.unusedVariables false
/-- A round of a range over a function, out of its body's walk; the body leaves it at its end. -/
theorem round_yield {P : Program} {rec bz : Loop} {l m : Nat} {W : World} {x : Value} {R : Ending → World → Prop} {a₁ : Act} {assign body : Code} {ts : Array Value}
    (hl : W.heap[l]? = some (.loop rec)) (hst : rec.state = .ready) (hpe : rec.pending = none) (hps : rec.params.size = 1) (hbz : bz = { rec with state := .busy }) (has : rec.assign = assign) (hbo : rec.body = body)
    (hts : (rec.params.zip #[x]).foldl (fun t (p, v) => t.setIfInBounds p v) rec.tmps = ts)
    (hassign : ∀ K : Act → World → Prop, K a₁ W → assign.wpIn (Fence.wide.inRound l) m P (Exit.then K (fun _ _ _ => False)) { tmps := ts, defers := [] } W)
    (hbody : body.wpIn (Fence.wide.inRound l) m P (fun e _ w3 => e = .normal ∧ w3.heap[l]? = some (.loop bz) ∧ R (.returned (.bool true)) (w3.putObj l (.loop rec))) a₁ (W.putObj l (.loop bz))) :
    YieldAt Fence.wide m P l #[x] W R := by
  subst hbz has hbo hts
  refine ⟨rec.fn, _, rec.assign, rec.body, run_yield (P := P) (args := #[x]) hl (by rw [hps]; rfl), roundIn_of_wpIn trivial (hassign _ ⟨_, run_beginRound hl hst, wpIn_mono hbody ?_⟩)⟩
  rintro e a3 w3 ⟨rfl, h3, hr⟩
  refine ⟨_, _, run_endRound none h3, ?_⟩
  have : ({ rec with state := .ready, pending := none } : Loop) = rec := by cases rec; simp at hst hpe; subst hst hpe; rfl
  rw [← this] at hr
  exact hr
/-- Between two rounds: the iterator's boxes (nodes, key, the place), the box of what has come, the loop's record. -/
structure Mid (w0 : World) (nb ib kb Bs D : Nat) (rd : Loop) (A : Option Addr) (c n : Nat) (key : Int) (pre : List Int) (id : Int) (W : World) : Prop where
  below : Below w0.heap.size w0 W
  nodes : W.heap[nb]? = some (.cells #[.slice A n c] 23 (0, 0))
  key : W.heap[kb]? = some (.cells #[.int .i64 key] 3 (0, 0))
  place : W.heap[ib]? = some (.cells #[.int .i64 id] 3 (0, 0))
  out : ∃ A2 c2, W.heap[Bs]? = some (.cells #[.slice A2 pre.length c2] 23 (0, 0)) ∧ OwnI W (D + 2) A2 c2 pre
  rec_ : W.heap[D + 1]? = some (.loop rd)
  mark : W.heap[D]? = some (.deferred (some []))
theorem blt {W : World} {j : Nat} {o : Obj} (h : W.heap[j]? = some o) : j < W.heap.size := (Array.getElem?_eq_some_iff.1 h).1
section
variable {w0 : World} {nb ib kb Bs D : Nat} {rd : Loop} {A : Option Addr} {c n : Nat} {key : Int} {pre : List Int} {id : Int} {W W' : World}
theorem Mid.later (h : Mid w0 nb ib kb Bs D rd A c n key pre id W) (hb : Below W.heap.size W W') : Mid w0 nb ib kb Bs D rd A c n key pre id W' := by
  obtain ⟨A2, c2, h1, h2⟩ := h.out
  have k := fun {j : Nat} {o : Obj} (e : W.heap[j]? = some o) => (hb.block j (blt e)).trans e
  exact ⟨h.below.trans (hb.mono h.below.size), k h.nodes, k h.key, k h.place, ⟨A2, c2, k h1, h2.below hb (Nat.le_refl _)⟩, k h.rec_, k h.mark⟩
theorem Mid.move (h : Mid w0 nb ib kb Bs D rd A c n key pre id W) (h0 : w0.heap.size ≤ ib) (h1 : nb ≠ ib) (h2 : kb ≠ ib) (h3 : Bs ≠ ib) (h4 : ib < D) (id' : Int) :
    Mid w0 nb ib kb Bs D rd A c n key pre id' (W.setCell ⟨ib, 0, none⟩ (.int .i64 id')) := by
  obtain ⟨A2, c2, e1, e2⟩ := h.out
  have k := fun {j : Nat} {o : Obj} (e : W.heap[j]? = some o) (hj : j ≠ ib) => (Below.heap_setCell W ⟨ib, 0, none⟩ (.int .i64 id') j hj).trans e
  refine ⟨h.below.setCell h0 _, k h.nodes h1, k h.key h2, ?_, ⟨A2, c2, k e1 h3, ?_⟩, k h.rec_ (by omega), k h.mark (by omega)⟩
  · rw [heap_setCell_same W ib 0 _ _ (.int .i64 id') h.place]; rfl
  · exact OwnI.grown (R := ib) e2 ⟨rfl, rfl, rfl, by simp [World.setCell], fun j hj hne => heap_setCell_other W ⟨ib, 0, none⟩ j _ (fun e => hne (by simp [e]))⟩ (by omega)
end
def placeOf (ib : Nat) (xs : List Int) (key : Int) (W : World) : Nat := match W.cell? ⟨ib, 0, none⟩ with
  | some (.int _ id) => far xs key id
  | _ => 0
theorem placeOf_eq {ib : Nat} {xs : List Int} {key id : Int} {W : World} (h : W.cell? ⟨ib, 0, none⟩ = some (.int .i64 id)) : placeOf ib xs key W = far xs key id := by unfold placeOf; rw [h]
theorem cell_box {W : World} {b : Nat} {v : Value} {t : TypeId} (h : W.heap[b]? = some (.cells #[v] t (0, 0))) : W.cell? ⟨b, 0, none⟩ = some v ∧ W.frozen? ⟨b, 0, none⟩ = false := by
  constructor <;> simp [World.cell?, World.frozen?, h]
theorem iter_any (w0 : World) (nb ib kb Bs D : Nat) (rd : Loop) (A : Option Addr) (c : Nat) (xs : List Int) (key id0 : Int) (m : Nat)
    (hv : nval xs = true) (hk : pos key = true) (hid : id0 ∈ xs) (hl : xs.length ≤ maxLen) (hn : NumsAt .i64 w0 w0.heap.size A xs)
    (g0 : w0.heap.size ≤ ib) (g1 : nb ≠ ib) (g2 : kb ≠ ib) (g3 : Bs ≠ ib) (g4 : ib < D)
    (hY : ∀ pre id W, pre.length < 64 → Mid w0 nb ib kb Bs D rd A c xs.length key pre id W → YieldAt Fence.wide m Try.prog (D + 1) #[.int .i64 id] W fun e W' => e = .returned (.bool true) ∧ Mid w0 nb ib kb Bs D rd A c xs.length key (pre ++ [id]) id W')
    (W : World) (h : Mid w0 nb ib kb Bs D rd A c xs.length key [] id0 W) :
    CallsIn Fence.wide (m + 1) Try.prog 38 #[.func (.yield (D + 1)) #[] #[], .pointer (some ⟨nb, 0, none⟩), .pointer (some ⟨kb, 0, none⟩), .pointer (some ⟨ib, 0, none⟩)] W
      fun e W' => (∃ v, e = .returned v) ∧ ∃ id, Mid w0 nb ib kb Bs D rd A c xs.length key (path xs key id0) id W' := by
  have HV := Lib.hid hv
  have HK := Lib.hid hk
  have HY := fun pre id W hlen hm => Lib.hid (hY pre id W hlen hm)
  have HNN := Lib.hid (nnext_yes hv hk)
  have HSH := Lib.hid (path_short hv hk hid)
  have HNX := fun (W : World) (hb : Below w0.heap.size w0 W) => Lib.hid (nnext_impl w0.heap.size A c xs key hl W (hn.below hb))
  have HLN := fun (W : World) (hb : Below w0.heap.size w0 W) (id : Int) => Lib.hid (ln_impl w0.heap.size A c xs id key hl W hb.size (hn.below hb))
  clear hY hv hk hn
  obtain ⟨n1, n2⟩ := cell_box h.nodes
  obtain ⟨k1, k2⟩ := cell_box h.key
  have HN0 := HNX W h.below
  have HM0 := Lib.hid h
  refine callsIn_of_wp Try.func38 rfl trivial ?_
  simp only [Try.ntmps38, List.size_toArray, List.length_cons, List.length_nil, Nat.reduceAdd, Nat.reduceSub, Array.replicate_succ, Array.replicate_zero, List.push_toArray, List.append_toArray, List.nil_append, List.cons_append]
  gi_wp2_with (refine ⟨trivial, ?_⟩; gi_at_call 20; refine (callsIn_wide.2 HN0.out).mono ?_; rw [HNN.out]; rintro e w' ⟨rfl, rfl⟩)
  clear n1 n2 k1 k2 HN0 h
  gi_loopw [9] (fun _ wr => ∃ pre id, id ∈ xs ∧ pre ++ path xs key id = path xs key id0 ∧ Mid w0 nb ib kb Bs D rd A c xs.length key pre id wr) (fun _ wr => placeOf ib xs key wr)
  case atStart => exact ⟨[], id0, hid, rfl, HM0.out⟩
  case round =>
    clear HM0
    obtain ⟨pre, id, hm, he, hM⟩ := hrel
    have HE := Lib.hid he
    have HMem := Lib.hid hm
    have hlen : pre.length < 64 := by
      have := HSH.out
      rw [← he, List.length_append] at this
      have := path_len HV.out HK.out hm
      omega
    obtain ⟨fn, tmps, assign, body, hy, hR⟩ := (HY pre id wr hlen hM).out
    obtain ⟨p1, p2⟩ := cell_box hM.place
    have HP := Lib.hid (placeOf_eq (xs := xs) (key := key) p1)
    clear he hm hM
    by_cases ho : id = nxt xs key
    · have HD := Lib.hid (path_end (xs := xs) (key := key) ho)
      subst ho
      gi_wp2
      refine hR.mono ?_
      rintro e W3 ⟨rfl, hM3⟩
      obtain ⟨q1, q2⟩ := cell_box hM3.place
      have HM3 := Lib.hid hM3
      clear hM3 hy p1 p2
      gi_wp2
      go_end0
      exact ⟨⟨_, rfl⟩, _, by rw [← HE.out, HD.out]; exact HM3.out⟩
    · have hne : (id != nxt xs key) = true := by simpa using ho
      have HS := Lib.hid (path_step HV.out HK.out HMem.out ho)
      have HF := Lib.hid (lnx_far HV.out HMem.out HK.out ho)
      have HLY := Lib.hid (lnext_yes (nodeOk_iff.2 ⟨HV.out, HMem.out⟩) HK.out)
      clear ho
      gi_wp2
      refine hR.mono ?_
      rintro e W3 ⟨rfl, hM3⟩
      obtain ⟨q1, q2⟩ := cell_box hM3.place
      obtain ⟨n1, n2⟩ := cell_box hM3.nodes
      obtain ⟨k1, k2⟩ := cell_box hM3.key
      have HL3 := HLN W3 hM3.below id
      have HM3 := Lib.hid hM3
      clear hM3 hy p1 p2
      gi_wp2_with (refine ⟨trivial, ?_⟩; gi_at_call 16; refine (callsIn_wide.2 HL3.out).mono ?_; rw [HLY.out]; rintro e W4 ⟨rfl, hb4⟩
                   have hM4 := HM3.out.later hb4
                   clear q1 q2 n1 n2 k1 k2
                   obtain ⟨q1, q2⟩ := cell_box hM4.place
                   have HM4 := Lib.hid hM4
                   clear hM4)
      go_roundw
      case rel => exact ⟨pre ++ [id], lnx xs id key, HF.out.1, by rw [List.append_assoc, List.singleton_append, ← HS.out]; exact HE.out, HM4.out.move g0 g1 g2 g3 g4 _⟩
      case measure => rw [HP.out, placeOf_eq (id := lnx xs id key) (cell_box (HM4.out.move g0 g1 g2 g3 g4 (lnx xs id key)).place).1]; exact HF.out.2
theorem listIn_app {F : Fence} {n : Nat} {P : Program} {t : TypeId} {ops : Array Oper} {rest : List Oper} {o : Oper} {a : Act} {Q : Exit → Act → World → Prop}
    (hgd : o.guard = none) (ht : P.underlying t = some (.slice 3)) {i : TypeInfo} (hi : P.info? 3 = some i) (hz : i.zero = some (.int .i64 0)) (hsz : i.size = 1) (hby : i.bytes = 8)
    (s x : Operand) (ho : o.op = .call { callee := .builtin .append, args := #[s, x], argTypes := #[t, t] })
    {w : World} {base : Nat} {A : Option Addr} {k c : Nat} {xs : List Int} (hs : a.eval s = .slice A k c) (hn : k = xs.length) (hown : OwnI w base A c xs) {A' : Option Addr} {m c' : Nat} {ys : List Int} (hx : a.eval x = .slice A' m c') (hsrc : SrcI w A' m c' ys) (hl : xs.length + ys.length ≤ 1048576) (hb : base ≤ w.heap.size)
    (h : ∀ A'' c'' w', OwnI w' base A'' c'' (xs ++ ys) → w.grownBy w' (A.map (·.block)) → wpListIn F n P ops Q rest (a.put o.dst (.slice A'' (xs ++ ys).length c'')) w') : wpListIn F n P ops Q (o :: rest) a w := by
  subst hn
  refine wpListIn_plain hgd fun K hK => ?_
  obtain ⟨A'', c'', w', hr, h2, h3, h4⟩ := app_run (P := P) ht hi hz hsz hby o.type hown hsrc hl hb
  unfold Oper.wpIn
  refine ⟨?_, ?_⟩
  · simp [Oper.about, ho, resolve, Target.leads, Sem.run_pure]
  · rw [Oper.semAt_plain F _ _ (by rw [ho]; intro c hc; cases hc)]
    simp only [execOp, ho, resolve, invoke, builtin, Sem.run_bind, Sem.run_pure, Result.andThen_ok, List.map_toArray, List.map_cons, List.map_nil, hs, hx, hr]
    exact hK _ _ (h A'' c'' w' h2 h3)
theorem Mid.put {w0 : World} {nb ib kb Bs D : Nat} {rd : Loop} {A : Option Addr} {c n : Nat} {key : Int} {pre : List Int} {id : Int} {W : World} (h : Mid w0 nb ib kb Bs D rd A c n key pre id W)
    (h0 : w0.heap.size ≤ D) (h1 : nb < D) (h2 : kb < D) (h3 : ib < D) (h4 : Bs < D) (rd' : Loop) : Mid w0 nb ib kb Bs D rd' A c n key pre id (W.putObj (D + 1) (.loop rd')) := by
  obtain ⟨A2, c2, e1, e2⟩ := h.out
  have k := fun {j : Nat} {o : Obj} (e : W.heap[j]? = some o) (hj : j ≠ D + 1) => (World.putObj_heap_other (o := Obj.loop rd') hj).trans e
  have hlt := blt h.rec_
  exact ⟨h.below.grown (grownBy_putObj' W (D + 1) _) h.below.size (fun j e => by cases e; omega), k h.nodes (by omega), k h.key (by omega), k h.place (by omega), ⟨A2, c2, k e1 (by omega), e2.grown (grownBy_putObj' W (D + 1) _) (by omega)⟩, World.putObj_heap_same hlt, k h.mark (by omega)⟩
theorem Mid.more {w0 : World} {nb ib kb Bs D : Nat} {rd : Loop} {A : Option Addr} {c n : Nat} {key : Int} {pre : List Int} {id x : Int} {W W' : World} {A3 A4 : Option Addr} {c4 : Nat} (h : Mid w0 nb ib kb Bs D rd A c n key pre id W)
    (h0 : w0.heap.size ≤ Bs) (h1 : nb < Bs) (h2 : kb < Bs) (h3 : ib < Bs) (h4 : Bs < D) (hg : W.grownBy W' (A3.map (·.block))) (hA : ∀ k, A3.map (·.block) = some k → D + 2 ≤ k) (ho : OwnI W' (D + 2) A4 c4 (pre ++ [x])) :
    Mid w0 nb ib kb Bs D rd A c n key (pre ++ [x]) id (W'.setCell ⟨Bs, 0, none⟩ (.slice A4 (pre ++ [x]).length c4)) := by
  obtain ⟨A2, c2, e1, e2⟩ := h.out
  have hD := blt h.rec_
  have k := fun {j : Nat} {o : Obj} (e : W.heap[j]? = some o) (hj : j < D + 2) => (hg.block j (blt e) (fun e' => by have := hA j e'.symm; omega)).trans e
  have k2 := fun {j : Nat} {o : Obj} (e : W.heap[j]? = some o) (hj : j < D + 2) (hne : j ≠ Bs) => (Below.heap_setCell W' ⟨Bs, 0, none⟩ (.slice A4 (pre ++ [x]).length c4) j hne).trans (k e hj)
  have hb' : Below w0.heap.size w0 W' := h.below.grown hg h.below.size (fun j e => by have := hA j e; omega)
  refine ⟨hb'.setCell h0 _, k2 h.nodes (by omega) (by omega), k2 h.key (by omega) (by omega), k2 h.place (by omega) (by omega), ⟨A4, c4, ?_, ?_⟩, k2 h.rec_ (by omega) (by omega), k2 h.mark (by omega) (by omega)⟩
  · rw [heap_setCell_same W' Bs 0 _ _ _ (k e1 (by omega))]; rfl
  · exact OwnI.grown (R := Bs) ho ⟨rfl, rfl, rfl, by simp [World.setCell], fun j hj hne => heap_setCell_other W' ⟨Bs, 0, none⟩ j _ (fun e => hne (by simp [e]))⟩ (by omega)
/-- A range over a function in a function of its own, at the wide fence: the record and its block are laid, the function is called with yield. -/
theorem wp_range_lone {P : Program} {g : Operand} {ps : Array Tmp} {assign body : Code} {Q : Exit → Act → World → Prop} {a : Act} {w : World} {gf n : Nat} {lb : Array Value}
    (hg : a.eval g = .func (.func gf) #[] lb) (eg : ∀ args w, (callFunc gf args).run P w = .ok (.enter gf args) w) (hn : 1 ≤ n)
    (h : ∀ rec : Loop, rec.state = .ready → rec.pending = none → rec.params = ps → rec.assign = assign → rec.body = body → rec.tmps = a.tmps →
      CallsIn Fence.wide (n - 1) P gf (#[.func (.yield (w.heap.size + 1)) #[] #[]] ++ lb) ((w.alloc (.deferred (some []))).alloc (.loop rec))
        (rangePost Fence.wide n P (w.heap.size + 1) Q { a with defers := [{ target := .collected w.heap.size, args := #[] }] ++ a.defers })) :
    (Code.rangeFunc g ps assign body).wpIn Fence.wide n P Q a w := by
  refine wpIn_rangeFunc fun fn _ => ?_
  have hh := h { state := .ready, pending := none, fn, tmps := a.tmps, params := ps, assign, body, defers := w.heap.size } rfl rfl rfl rfl rfl rfl
  refine ⟨w.heap.size + 1, [{ target := .collected w.heap.size, args := #[] }], _, { target := .fn (.func gf) lb, args := #[.func (.yield (w.heap.size + 1)) #[] #[]] }, (w.alloc (.deferred (some []))).alloc (.loop { state := .ready, pending := none, fn, tmps := a.tmps, params := ps, assign, body, defers := w.heap.size }), gf, _, _, run_enterLoop_outer _ _ _ _ _, ?_, fun _ _ => trivial, ?_, fun _ => hn, hh⟩
  · simp only [resolve, hg]
    simp [go_sem]
  · simp [invoke, go_sem, eg]
/-- slices.AppendSeq over the iterator. -/
theorem appendSeq_any (w0 : World) (nb ib kb : Nat) (A : Option Addr) (c : Nat) (xs : List Int) (key id0 : Int)
    (hv : nval xs = true) (hk : pos key = true) (hid : id0 ∈ xs) (hl : xs.length ≤ maxLen) (hn : NumsAt .i64 w0 w0.heap.size A xs) (w : World) (hb : Below w0.heap.size w0 w)
    (g0 : w0.heap.size ≤ ib) (g1 : nb ≠ ib) (g2 : kb ≠ ib)
    (hnb : w.heap[nb]? = some (.cells #[.slice A xs.length c] 23 (0, 0))) (hkb : w.heap[kb]? = some (.cells #[.int .i64 key] 3 (0, 0))) (hib : w.heap[ib]? = some (.cells #[.int .i64 id0] 3 (0, 0))) :
    CallsIn Fence.wide 3 Try.prog 37 #[.slice none 0 0, .func (.func 38) #[] #[.pointer (some ⟨nb, 0, none⟩), .pointer (some ⟨kb, 0, none⟩), .pointer (some ⟨ib, 0, none⟩)]] w
      fun e w' => ∃ (A' : Option Addr) (c' : Nat), e = .returned (.slice A' (path xs key id0).length c') ∧ OwnI w' w0.heap.size A' c' (path xs key id0) ∧ Below w0.heap.size w0 w' := by
  obtain ⟨i0, hi, hz0, hz1, hz2⟩ := info_parts int_info
  have HI := Lib.hid hi
  have HZ0 := Lib.hid hz0
  have HZ1 := Lib.hid hz1
  have HZ2 := Lib.hid hz2
  clear hi hz0 hz1 hz2
  have eg : ∀ args w, (callFunc 38 args).run Try.prog w = .ok (.enter 38 args) w := enters_of Try.func38 (by kernel_rfl) rfl
  refine callsIn_of_wp_marks Try.func37 rfl trivial ?_
  simp only [Try.ntmps37, List.size_toArray, List.length_cons, List.length_nil, Nat.reduceAdd, Nat.reduceSub, Array.replicate_succ, Array.replicate_zero, List.push_toArray, List.append_toArray, List.nil_append, List.cons_append]
  gi_wp2
  refine wp_range_lone rfl eg (by omega) ?_
  intro rec r1 r2 r3 r4 r5 r6
  generalize hW0 : w.alloc (.cells #[.slice none 0 0] 23) = W0
  have hs0 : W0.heap.size = w.heap.size + 1 := by rw [← hW0]; simp
  have hb0 : Below w0.heap.size w0 W0 := by rw [← hW0]; exact hb.alloc hb.size _
  have hv0 : W0.heap[w.heap.size]? = some (.cells #[.slice none 0 0] 23 (0, 0)) := by rw [← hW0]; exact hp_new w _
  have hold0 : ∀ {j : Nat} {o : Obj}, w.heap[j]? = some o → W0.heap[j]? = some o := fun h => by rw [← hW0]; exact hp_old _ h
  generalize hW1 : (W0.alloc (.deferred (some []))).alloc (.loop rec) = W1
  have hold1 : ∀ {j : Nat} {o : Obj}, W0.heap[j]? = some o → W1.heap[j]? = some o := fun h => by rw [← hW1]; exact hp_old _ (hp_old _ h)
  have hM1 : Mid w0 nb ib kb w.heap.size W0.heap.size rec A c xs.length key [] id0 W1 := by
    refine ⟨?_, hold1 (hold0 hnb), hold1 (hold0 hkb), hold1 (hold0 hib), ⟨none, 0, hold1 hv0, OwnI.none_ _ _⟩, ?_, ?_⟩
    · rw [← hW1]; exact (hb0.alloc hb0.size _).alloc (by have := hb0.size; simp; omega) _
    · rw [← hW1]; exact hp_new1 W0 _ _
    · rw [← hW1]; exact hp_old _ (hp_new W0 _)
  have hlt := blt hib
  have hltn := blt hnb
  have hltk := blt hkb
  have hw0 := hb.size
  have hDb : w.heap.size < W0.heap.size := by omega
  clear hW0 hW1 hold0 hold1 hv0 hb hnb hkb hib hs0
  refine (iter_any w0 nb ib kb w.heap.size W0.heap.size rec A c xs key id0 _ hv hk hid hl hn g0 g1 g2 (by omega) (by omega) ?_ W1 hM1).mono ?_
  · intro pre id W hlen hM
    have hM2 := hM.put (by omega) (by omega) (by omega) (by omega) (by omega) { rec with state := .busy }
    refine round_yield (bz := { rec with state := .busy }) (a₁ := { tmps := #[.slice none 0 0, .func (.func 38) #[] #[.pointer (some ⟨nb, 0, none⟩), .pointer (some ⟨kb, 0, none⟩), .pointer (some ⟨ib, 0, none⟩)], .pointer (some ⟨w.heap.size, 0, none⟩), undef, .slice none 0 0, .int .i64 id, .func (.func 38) #[] #[.pointer (some ⟨nb, 0, none⟩), .pointer (some ⟨kb, 0, none⟩), .pointer (some ⟨ib, 0, none⟩)], .int .i64 id, undef, undef, undef, undef, undef], defers := [] }) hM.rec_ r1 r2 (by rw [r3]; rfl) rfl r4 r5
      (by rw [r3, r6]) ?_ ?_
    · intro K hK
      gi_wp2_with (rw [Oper.semAt_eq _ _ _ (fun c h => by cases h)]; go_simp; try go_bits)
      exact hK
    · generalize ({ rec with state := .busy } : Loop) = bz at hM2 ⊢
      generalize W.putObj (W0.heap.size + 1) (.loop bz) = W2 at hM2 ⊢
      clear r1 r2 r3 r4 r5 r6
      obtain ⟨A2, c2, e1, e2⟩ := hM2.out
      obtain ⟨b1, b2⟩ := cell_box e1
      have hsz := blt hM2.rec_
      have hrow := e2.row
      gi_wp2_with (first
        | (gi_at_builtin
           refine listIn_app rfl Try.underlying23 HI.out HZ0.out HZ1.out HZ2.out (.tmp 8) (.tmp 10) rfl (base := W0.heap.size + 2) (xs := pre) (ys := [id]) rfl rfl (e2.alloc _) rfl (SrcI.one _ _) ?_ ?_ ?_
           · simp; omega
           · simp; omega
           intro A4 c4 W3 ho4 hg4
           have hM3 := hM2.later ((Below.refl _ _).alloc (Nat.le_refl _) _ : Below W2.heap.size W2 (W2.alloc (.cells #[.int .i64 id] 3)))
           have hM4 := hM3.more (by omega) (by omega) (by omega) (by omega) (by omega) hg4 hrow ho4
           have hcell := (hg4.block w.heap.size (by simp; omega) (fun e => by have := hrow _ e.symm; omega)).trans ((hp_old (.cells #[.int .i64 id] 3) e1))
           have HM4 := Lib.hid hM4
           have HCC := cell_box hcell
           obtain ⟨b3, b4⟩ := HCC
           clear b1 b2 hM3 hM4 hg4 hcell ho4)
        | (rw [Oper.semAt_eq _ _ _ (fun c h => by cases h)]; go_simp; try go_bits))
      have hm4 := HM4.out
      rw [show (pre ++ [id]).length = pre.length + 1 from by simp] at hm4
      exact ⟨hm4.rec_, hm4.put (by omega) (by omega) (by omega) (by omega) (by omega) rec⟩
  · rintro e W2 ⟨⟨v, rfl⟩, id, hM⟩
    have hend := run_endLoop (P := Try.prog) hM.rec_ (by rw [r1]; intro h; cases h)
    rw [r2] at hend
    have hM3 := hM.put (by omega) (by omega) (by omega) (by omega) (by omega) { rec with state := .exhausted, pending := none }
    generalize W2.putObj (W0.heap.size + 1) (.loop { rec with state := .exhausted, pending := none }) = W3 at hM3 hend
    generalize ({ rec with state := .exhausted, pending := none } : Loop) = ex at hM3
    obtain ⟨A2, c2, e1, e2⟩ := hM3.out
    obtain ⟨b1, b2⟩ := cell_box e1
    have hK := hM3.mark
    have hBel := hM3.below
    clear r1 r2 r3 r4 r5 r6 hM hM3 hM1
    refine ⟨none, W3, hend, ?_⟩
    gi_wp2
    refine ⟨by simp, .inl ⟨_, _, rfl, run_takeDeferred hK, ?_⟩⟩
    exact ⟨_, results_tmp rfl _ _ _, A2, c2, rfl, (e2.grown (grownBy_putObj' W3 W0.heap.size _) (by omega)).base (by omega), hBel.grown (grownBy_putObj' W3 W0.heap.size _) hBel.size (fun k e => by cases e; omega)⟩
theorem lookup_any (A : Option Addr) (n c : Nat) (id key : Int) (w : World) : Calls Try.prog 24 #[.slice A n c, .int .i64 id, .int .i64 key] w fun e w' =>
    e = .returned (.func (.func 38) #[] #[.pointer (some ⟨w.heap.size, 0, none⟩), .pointer (some ⟨w.heap.size + 2, 0, none⟩), .pointer (some ⟨w.heap.size + 1, 0, none⟩)]) ∧
    w' = ((w.alloc (.cells #[.slice A n c] 23)).alloc (.cells #[.int .i64 id] 3)).alloc (.cells #[.int .i64 key] 3) := by
  have hmf : ∀ (fn : Fn) (first cap : Array Value) (w : World), (Instr.makeFunc fn first cap).run Try.prog w = .ok (.func fn first cap) w := fun _ _ _ _ => rfl
  go_enter Try.func24, Try.ntmps24
  go_wp2
  go_ret
  exact ⟨rfl, rfl⟩
theorem collect_any (A : Option Addr) (c : Nat) (xs : List Int) (key id0 : Int) (w0 : World)
    (hv : nval xs = true) (hk : pos key = true) (hid : id0 ∈ xs) (hl : xs.length ≤ maxLen) (hn : NumsAt .i64 w0 w0.heap.size A xs) :
    Calls Try.prog 23 #[.func (.func 38) #[] #[.pointer (some ⟨w0.heap.size, 0, none⟩), .pointer (some ⟨w0.heap.size + 2, 0, none⟩), .pointer (some ⟨w0.heap.size + 1, 0, none⟩)]]
      (((w0.alloc (.cells #[.slice A xs.length c] 23)).alloc (.cells #[.int .i64 id0] 3)).alloc (.cells #[.int .i64 key] 3)) (MadeI w0 (path xs key id0)) := by
  generalize hW : ((w0.alloc (.cells #[.slice A xs.length c] 23)).alloc (.cells #[.int .i64 id0] 3)).alloc (.cells #[.int .i64 key] 3) = W
  have hb : Below w0.heap.size w0 W := by rw [← hW]; exact (((Below.refl _ _).alloc (Nat.le_refl _) _).alloc (by simp) _).alloc (by simp; omega) _
  have h1 : W.heap[w0.heap.size]? = some (.cells #[.slice A xs.length c] 23 (0, 0)) := by rw [← hW]; exact hp_old _ (hp_old _ (hp_new w0 _))
  have h2 : W.heap[w0.heap.size + 1]? = some (.cells #[.int .i64 id0] 3 (0, 0)) := by rw [← hW]; exact hp_old _ (hp_new1 w0 _ _)
  have h3 : W.heap[w0.heap.size + 2]? = some (.cells #[.int .i64 key] 3 (0, 0)) := by
    rw [← hW]
    have := hp_new1 (w0.alloc (.cells #[.slice A xs.length c] 23)) (.cells #[.int .i64 id0] 3) (.cells #[.int .i64 key] 3)
    simpa using this
  have HC := Lib.hid (callsIn_wide.1 (appendSeq_any w0 w0.heap.size (w0.heap.size + 1) (w0.heap.size + 2) A c xs key id0 hv hk hid hl hn W hb (by omega) (by omega) (by omega) h1 h3 h2))
  clear hW h1 h2 h3 hb hn
  go_enter Try.func23, Try.ntmps23
  go_wp2_with fail
  refine HC.out.mono ?_; rintro e w1 ⟨A', c', rfl, ho, hb⟩
  go_wp2
  go_ret
  exact ⟨A', c', rfl, ho, hb⟩
theorem lpath_yes {xs : List Int} {id key : Int} (h : nodeOk xs id = true ∧ pos key = true) : lpath xs id key = path xs key id := by unfold lpath; rw [if_pos h]
theorem lpath_no {xs : List Int} {id key : Int} (h : ¬ (nodeOk xs id = true ∧ pos key = true)) : lpath xs id key = [] := by unfold lpath; rw [if_neg h]
theorem lpath_le (xs : List Int) (id key : Int) : (lpath xs id key).length ≤ 64 := by
  unfold lpath; split
  · next h => have hn := nodeOk_iff.1 h.1; have := path_short hn.1 h.2 hn.2; omega
  · simp
theorem node_or {xs : List Int} {id key : Int} (h : ¬ (nodeOk xs id = true ∧ pos key = true)) : nodeOk xs id = false ∨ (nodeOk xs id = true ∧ pos key = false) := by
  cases hn : nodeOk xs id
  · exact .inl rfl
  · cases hk : pos key
    · exact .inr ⟨rfl, rfl⟩
    · exact absurd ⟨hn, hk⟩ h
theorem lpath_impl (B : Nat) (A : Option Addr) (c : Nat) (xs : List Int) (id key : Int) (hl : xs.length ≤ maxLen) (w : World) (hB : B ≤ w.heap.size) (h : NumsAt .i64 w B A xs) :
    Calls Try.prog 11 #[.slice A xs.length c, .int .i64 id, .int .i64 key] w (MadeI w (lpath xs id key)) := by
  have HN := Lib.hid (isNode_any B A c xs id hl w h)
  by_cases hall : nodeOk xs id = true ∧ pos key = true
  · have H := Lib.hid (lpath_yes hall)
    obtain ⟨hn, hk⟩ := hall
    obtain ⟨hv, hid⟩ := nodeOk_iff.1 hn
    have HC := Lib.hid (collect_any A c xs key id w hv hk hid hl (h.more hB))
    clear h hv hid
    go_enter Try.func11, Try.ntmps11
    go_wp2_with (first
      | (go_at_call 21; refine (HN.out).mono ?_; rw [hn]; rintro e w' ⟨rfl, rfl⟩)
      | (go_at_call 22; refine (ok_any _ _).mono ?_; rw [hk]; rintro e w' ⟨rfl, rfl⟩)
      | (go_at_call 24; refine (lookup_any _ _ _ _ _ _).mono ?_; rintro e w' ⟨rfl, rfl⟩)
      | (go_at_call 23; refine (HC.out).mono ?_; rintro e w1 ⟨A', c', rfl, ho, hb⟩))
    go_ret
    exact ⟨A', c', by rw [H.out]; rfl, by rw [H.out]; exact ho, hb⟩
  · have H := Lib.hid (lpath_no hall)
    have hcase := node_or hall
    clear h hall
    rcases hcase with hn | ⟨hn, hk⟩
    all_goals
      go_enter Try.func11, Try.ntmps11
      go_wp2_with (first
        | (go_at_call 21; refine (HN.out).mono ?_; rw [hn]; rintro e w' ⟨rfl, rfl⟩)
        | (go_at_call 22; refine (ok_any _ _).mono ?_; rw [hk]; rintro e w' ⟨rfl, rfl⟩))
      go_ret
      exact ⟨none, 0, by rw [H.out]; rfl, by rw [H.out]; exact OwnI.none_ _ _, Below.refl _ _⟩
theorem lpath_spec (B : Nat) (A : Option Addr) (c : Nat) (xs : List Int) (id key : Int) (hl : xs.length ≤ maxLen) (w : World) (hB : B ≤ w.heap.size) (h : NumsAt .i64 w B A xs) :
    Calls Try.prog 12 #[.slice A xs.length c, .int .i64 id, .int .i64 key] w (MadeI w (lpath xs id key)) := by
  have hbz : Below w.heap.size w (w.alloc (.cells #[] 3)) := (Below.refl _ _).alloc (Nat.le_refl _) _
  have HN := Lib.hid (l11Ok_any B A c xs id hl (w.alloc (.cells #[] 3)) (h.below (hbz.mono hB)))
  have ho0 := Lib.hid (OwnI.empty w (base := w.heap.size) (Nat.le_refl _))
  by_cases hall : nodeOk xs id = true ∧ pos key = true
  · have H := Lib.hid (lpath_yes hall)
    obtain ⟨hn, hk⟩ := hall
    obtain ⟨hv, hid⟩ := nodeOk_iff.1 hn
    have hl1 := (nval_len hv).1
    have HV := Lib.hid hv
    have HK := Lib.hid hk
    have HID := Lib.hid hid
    have HSH := Lib.hid (path_short hv hk hid)
    have HNX := fun (W : World) (hb : Below w.heap.size w W) => Lib.hid (snxt_any B A c xs key hl1 hl W (h.below (hb.mono hB)))
    have HLN := fun (W : World) (hb : Below w.heap.size w W) (i : Int) (hi : i ∈ xs) => Lib.hid (sln_any B A c xs i key hv hi hl W (Nat.le_trans hB hb.size) (h.below (hb.mono hB)))
    obtain ⟨i0, hi, hz0, hz1, hz2⟩ := info_parts int_info
    have HI := Lib.hid hi
    have HZ0 := Lib.hid hz0
    have HZ1 := Lib.hid hz1
    have HZ2 := Lib.hid hz2
    clear hi hz0 hz1 hz2 h hv hid
    go_enter Try.func12, Try.ntmps12
    go_wp2_with (first
      | (go_at_call 25; refine (HN.out).mono ?_; rw [hn]; rintro e w' ⟨rfl, nd, rfl⟩
         have hbs : Below w.heap.size w ((w.alloc (.cells #[] 3)).drewN nd) := hbz.trans ((below_draw ⟨nd, rfl⟩).mono (by simp))
         have hos : OwnI ((w.alloc (.cells #[] 3)).drewN nd) w.heap.size (some ⟨w.heap.size, 0, none⟩) 0 [] := ho0.out.drewN nd
         generalize (w.alloc (.cells #[] 3)).drewN nd = w1 at hbs hos ⊢
         clear hbz HN ho0)
      | (go_at_call 26; refine (point_any _ _).mono ?_; rw [hk]; rintro e w' ⟨rfl, rfl⟩)
      | (at_builtin
         refine list_app rfl Try.underlying23 HI.out HZ0.out HZ1.out HZ2.out (.tmp 20) (.tmp 22) rfl (base := w.heap.size) (xs := []) (ys := [id]) rfl rfl (OwnI.alloc hos _) rfl (SrcI.one _ _) ?_ ?_ ?_
         · simp
         · have := hbs.size; simp; omega
         intro E2 f2 w4 ho4 hg4 hat4
         have hb4 : Below w.heap.size w w4 := Below.grown (hbs.alloc hbs.size _) hg4 (by have := hbs.size; simp; omega) hos.row
         clear hat4 hos hbs hg4
         have HN4 := HNX w4 hb4)
      | (go_at_call 27; refine (HN4.out).mono ?_; rintro e w' ⟨rfl, rfl⟩))
    go_loopw [1, 7] (fun i s wr => ∃ (pre : List Int) (q : Int) (A' : Option Addr) (c' : Nat), q ∈ xs ∧ i = .int .i64 q ∧ s = .slice A' (pre ++ [q]).length c' ∧ pre ++ path xs key q = path xs key id ∧ OwnI wr w.heap.size A' c' (pre ++ [q]) ∧ Below w.heap.size w wr) (fun i _ _ => far xs key (intOf i))
    case atStart => exact ⟨[], id, E2, f2, HID.out, rfl, rfl, rfl, ho4, hb4⟩
    case round =>
      clear ho4 hb4 HN4
      obtain ⟨pre, q, A', c', hq, rfl, rfl, hpre, ho, hb⟩ := hrel
      have HP := Lib.hid hpre
      have HQ := Lib.hid hq
      have hlen : pre.length < 8 := by
        have h1 := HSH.out
        rw [← hpre, List.length_append] at h1
        have := path_len HV.out HK.out hq
        omega
      clear hpre hq
      by_cases ho' : q = nxt xs key
      · have HD := Lib.hid (path_end (xs := xs) (key := key) ho')
        subst ho'
        go_wp2
        go_ret
        exact ⟨A', c', by rw [H.out, ← HP.out, HD.out]; simp, by rw [H.out, ← HP.out, HD.out]; exact ho, hb⟩
      · have hne : (q != nxt xs key) = true := by simpa using ho'
        have HS := Lib.hid (path_step HV.out HK.out HQ.out ho')
        have HF := Lib.hid (lnx_far HV.out HQ.out HK.out ho')
        have HL := HLN wr hb q HQ.out
        clear ho'
        go_wp2_with (first
          | (go_at_call 28; refine (HL.out).mono ?_; rintro e w5 ⟨rfl, hb5⟩
             have ho5 := ho.below hb5 (Nat.le_refl _)
             have hB5 := below_next hb hb5
             have hsz5 := hB5.size
             clear hb5)
          | (at_builtin
             refine list_app rfl Try.underlying23 HI.out HZ0.out HZ1.out HZ2.out (.tmp 34) (.tmp 36) rfl (base := w.heap.size) (xs := pre ++ [q]) (ys := [_]) rfl (by simp) (OwnI.alloc ho5 _) rfl (SrcI.one _ _) ?_ ?_ ?_
             · simp; omega
             · simp; omega
             intro E3 f3 w6 ho6 hg6 hat6
             have hb6 : Below w.heap.size w w6 := Below.grown (hB5.alloc hsz5 _) hg6 (by simp; omega) ho5.row
             clear hat6))
        go_roundw
        case rel => exact ⟨pre ++ [q], lnx xs q key, E3, f3, HF.out.1, rfl, by simp, by rw [List.append_assoc, List.singleton_append, ← HS.out]; exact HP.out, ho6, hb6⟩
        case measure => simp only [intOf]; exact HF.out.2
  · have H := Lib.hid (lpath_no hall)
    have hcase := node_or hall
    clear h hall
    rcases hcase with hn | ⟨hn, hk⟩
    all_goals
      go_enter Try.func12, Try.ntmps12
      go_wp2_with (first
        | (go_at_call 25; refine (HN.out).mono ?_; rw [hn]; rintro e w' ⟨rfl, nd, rfl⟩)
        | (go_at_call 26; refine (point_any _ _).mono ?_; rw [hk]; rintro e w' ⟨rfl, rfl⟩))
      go_ret
      exact ⟨_, 0, by rw [H.out]; rfl, by rw [H.out]; exact ho0.out.drewN nd, hbz.trans ((below_draw ⟨nd, rfl⟩).mono (by simp))⟩
end Go.Proofs.Ytkepfmekghbkeaa
