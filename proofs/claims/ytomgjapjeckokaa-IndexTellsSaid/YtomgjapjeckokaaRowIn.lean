/- Long rows inside of a fence: loaded, stored, laid as a literal of one member. -/
import Derived.Test.YtomgjapjeckokaaHeldIn
import Derived.Test.YtomgjapjeckokaaRow
import Derived.Great.BuildSlice
namespace Go.Proofs.Ytomgjapjeckokaa
open Go.RowKit

section
variable {F : Fence} {n : Nat} {P : Program} {ops : Array Oper} {rest : List Oper} {o : Oper} {a : Act} {w : World} {K : Act → World → Prop} {Q : Exit → Act → World → Prop}
theorem wpIn_run (hnd : ∀ c, o.op ≠ .defer c) (hab : o.about P w a.eval = none) (v : Value) (w' : World) (hr : (execOp a.eval o).run P w = .ok (.value v) w') (h : K (a.put o.dst v) w') : o.wpIn F n P a w K Q := by
  unfold Oper.wpIn
  refine ⟨fun f hf => (by rw [hab] at hf; cases hf), ?_⟩
  rw [Oper.semAt_plain F _ _ hnd, hr]
  exact h
theorem wpIn_skip (hnd : ∀ c, o.op ≠ .defer c) (hab : o.about P w a.eval = none) (w' : World) (hr : (execOp a.eval o).run P w = .ok .skip w') (h : K (a.put o.dst undef) w') : o.wpIn F n P a w K Q := by
  unfold Oper.wpIn
  refine ⟨fun f hf => (by rw [hab] at hf; cases hf), ?_⟩
  rw [Oper.semAt_plain F _ _ hnd, hr]
  exact h
theorem wpIn_load_mid (ty : TypeId) (x : Operand) (ho : o.op = .load ty x) (b i : Nat) (hx : a.eval x = .pointer (some ⟨b, i, none⟩)) (cs : List Value) (d : TypeDesc) (hc : w.rangeAt b i cs)
    (hu : P.underlying ty = some d) (hd : d.isRow = true) (hi : (P.info? ty).map (·.size) = some cs.length) (h : K (a.put o.dst (.agg cs.toArray)) w) : o.wpIn F n P a w K Q :=
  wpIn_run (by rw [ho]; intro c hc; cases hc) (by simp [Oper.about, ho]) _ w (by
    unfold execOp
    simp only [ho, hx, Instr.loadAt, Instr.sureAddr, Sem.run_bind, Sem.run_pure, Result.andThen_ok, run_loadVar_mid w b i ty cs d hc hu hd hi]) h
theorem wpListIn_load_mid (hgd : o.guard = none) (ty : TypeId) (x : Operand) (ho : o.op = .load ty x) (b i : Nat) (hx : a.eval x = .pointer (some ⟨b, i, none⟩)) (cs : List Value) (d : TypeDesc) (hc : w.rangeAt b i cs)
    (hu : P.underlying ty = some d) (hd : d.isRow = true) (hi : (P.info? ty).map (·.size) = some cs.length) (h : wpListIn F n P ops Q rest (a.put o.dst (.agg cs.toArray)) w) : wpListIn F n P ops Q (o :: rest) a w :=
  wpListIn_plain hgd fun _ hK => wpIn_load_mid ty x ho b i hx cs d hc hu hd hi (hK _ _ h)
theorem wpIn_store_mid (ty : TypeId) (x y : Operand) (ho : o.op = .store ty x y) (b i : Nat) (cells : Array Value) (hx : a.eval x = .pointer (some ⟨b, i, none⟩)) (hy : a.eval y = .agg cells)
    (ht : w.there b i cells.size) (hi : (P.info? ty).map (·.size) = some cells.size) (h1 : cells.all (·.oneCell') = true) (h : K (a.put o.dst undef) (w.setCells b i cells.toList)) : o.wpIn F n P a w K Q :=
  wpIn_skip (by rw [ho]; intro c hc; cases hc) (by simp [Oper.about, ho]) _ (by
    unfold execOp
    simp only [ho, hx, hy, Instr.storeAt, Instr.sureAddr, Sem.run_bind, Sem.run_pure, Result.andThen_ok, run_storeVar_mid w b i ty cells ht hi h1]) h
theorem wpListIn_store_mid (hgd : o.guard = none) (ty : TypeId) (x y : Operand) (ho : o.op = .store ty x y) (b i : Nat) (cells : Array Value) (hx : a.eval x = .pointer (some ⟨b, i, none⟩)) (hy : a.eval y = .agg cells)
    (ht : w.there b i cells.size) (hi : (P.info? ty).map (·.size) = some cells.size) (h1 : cells.all (·.oneCell') = true) (h : wpListIn F n P ops Q rest (a.put o.dst undef) (w.setCells b i cells.toList)) : wpListIn F n P ops Q (o :: rest) a w :=
  wpListIn_plain hgd fun _ hK => wpIn_store_mid ty x y ho b i cells hx hy ht hi h1 (hK _ _ h)
theorem wpIn_build1 (t e : TypeId) (x : Operand) (ho : o.op = .buildSlice t 1 #[(0, x)]) (hu : P.underlying t = some (.slice e)) {ie : TypeInfo} {z : Value} (hie : P.info? e = some ie) (hz : ie.zero = some z) (cs : Array Value) (hx : a.eval x = .agg cs)
    (hs : cs.size = ie.size) (hb : 0 < ie.size ∧ ie.size ≤ 1000) (h : K (a.put o.dst (.slice (some ⟨w.heap.size, 0, none⟩) 1 1)) (w.alloc (.cells cs e))) : o.wpIn F n P a w K Q := by
  have h2 := Great.fill_whole (s := ie.size) hb.1 [Value.agg cs] ((Array.range (1 * ie.size)).map (z.cells[· % z.cells.size]!)) (fun v hv => by obtain rfl := List.mem_singleton.1 hv; exact hs) (by simp)
  have hr := run_buildSlice (P := P) w t e 1 (#[(0, x)].map fun (i, x) => (i, a.eval x)) cs ie z hu hie hz (by omega) (by omega) (by
    simp only [List.map_toArray, List.map_cons, List.map_nil, hx]
    simpa [Value.cells] using h2)
  exact wpIn_run (by rw [ho]; intro c hc; cases hc) (by simp [Oper.about, ho]) _ _ (by
    unfold execOp
    simp only [ho, Sem.run_bind, hr, Result.andThen_ok]; rfl) h
theorem wpListIn_build1 (hgd : o.guard = none) (t e : TypeId) (x : Operand) (ho : o.op = .buildSlice t 1 #[(0, x)]) (hu : P.underlying t = some (.slice e)) {ie : TypeInfo} {z : Value} (hie : P.info? e = some ie) (hz : ie.zero = some z) (cs : Array Value) (hx : a.eval x = .agg cs)
    (hs : cs.size = ie.size) (hb : 0 < ie.size ∧ ie.size ≤ 1000) (h : wpListIn F n P ops Q rest (a.put o.dst (.slice (some ⟨w.heap.size, 0, none⟩) 1 1)) (w.alloc (.cells cs e))) : wpListIn F n P ops Q (o :: rest) a w :=
  wpListIn_plain hgd fun _ hK => wpIn_build1 t e x ho hu hie hz cs hx hs hb (hK _ _ h)
end
end Go.Proofs.Ytomgjapjeckokaa
