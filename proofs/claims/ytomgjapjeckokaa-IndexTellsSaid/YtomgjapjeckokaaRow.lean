/- Long rows, whole: stored, read, answered. -/
import Derived.Test.YtomgjapjeckokaaBlk
import Derived.Deep.MidRow
namespace Go.Proofs.Ytomgjapjeckokaa
open Go.RowKit

theorem setCells_row {b : Nat} {t : TypeId} {fr : Nat × Nat} : ∀ (vs pre rest : List Value) (w : World), w.heap[b]? = some (.cells (pre ++ rest).toArray t fr) → vs.length = rest.length →
    (w.setCells b pre.length vs).heap[b]? = some (.cells (pre ++ vs).toArray t fr)
  | [], pre, rest, w, h, hl => by
    have : rest = [] := List.length_eq_zero_iff.1 hl.symm
    subst this; exact h
  | v :: vs, pre, rest, w, h, hl => by
    obtain ⟨r, rest', rfl⟩ : ∃ r rest', rest = r :: rest' := by
      cases rest with
      | nil => simp at hl
      | cons a l => exact ⟨a, l, rfl⟩
    rw [World.setCells]
    have h1 := setCell_blk (i := pre.length) (x := v) h
    have e : ((pre ++ r :: rest').toArray.setIfInBounds pre.length v) = ((pre ++ [v]) ++ rest').toArray := by
      rw [List.setIfInBounds_toArray, List.set_append_right _ _ (Nat.le_refl _), Nat.sub_self, List.set_cons_zero, List.append_assoc]; rfl
    rw [e] at h1
    have h2 := setCells_row vs (pre ++ [v]) rest' _ h1 (by simpa using hl)
    rw [List.length_append, List.length_singleton, List.append_assoc] at h2
    exact h2
theorem setCells_off {b : Nat} : ∀ (vs : List Value) (o : Nat) (w : World) (k : Nat), k ≠ b → (w.setCells b o vs).heap[k]? = w.heap[k]?
  | [], _, _, _, _ => rfl
  | v :: vs, o, w, k, h => by rw [World.setCells, setCells_off vs _ _ k h, setCell_off h]
theorem setCells_same {b : Nat} : ∀ (vs : List Value) (o : Nat) (w : World), (w.setCells b o vs).os = w.os ∧ (w.setCells b o vs).tape = w.tape ∧ (w.setCells b o vs).output = w.output ∧ (w.setCells b o vs).heap.size = w.heap.size
  | [], _, _ => ⟨rfl, rfl, rfl, rfl⟩
  | v :: vs, o, w => by
    rw [World.setCells]
    obtain ⟨h1, h2, h3, h4⟩ := setCells_same vs (o + 1) (w.setCell ⟨b, o, none⟩ v)
    exact ⟨h1, h2, h3, by rw [h4]; simp [World.setCell]⟩
theorem Upd.setCells {S : Nat} {cs : Array Value} {t : TypeId} {W W' : World} (h : Upd S cs t W W') (vs : List Value) (hl : vs.length = cs.size) : Upd S vs.toArray t W (W'.setCells S 0 vs) := by
  obtain ⟨h1, h2, h3, h4⟩ := setCells_same (b := S) vs 0 W'
  refine ⟨h1.trans h.os, h2.trans h.tape, h3.trans h.output, h4.trans h.size, ?_, fun k hk => (setCells_off vs 0 W' k hk).trans (h.off k hk)⟩
  have := setCells_row (b := S) (t := t) (fr := (0, 0)) vs [] cs.toList W' (by simpa using h.here) (by simpa using hl)
  simpa using this
theorem there_blk {w : World} {b : Nat} {cs : Array Value} {t : TypeId} (h : w.heap[b]? = some (.cells cs t (0, 0))) {n : Nat} (hn : n = cs.size) : w.there b 0 n := by
  subst hn
  intro j hj
  refine ⟨?_, frozen_blk h⟩
  rw [Nat.zero_add, cell_blk h (Array.getElem?_eq_getElem hj)]; rfl
theorem range_blk {w : World} {b : Nat} {cs : List Value} {t : TypeId} {fr : Nat × Nat} (h : w.heap[b]? = some (.cells cs.toArray t fr)) : w.rangeAt b 0 cs := by
  intro j v hv
  rw [Nat.zero_add]
  exact cell_blk h (by simpa using hv)
/-- an operation that yields without a look at the world -/
theorem wpList_yield {P : Program} {ops : Array Oper} {rest : List Oper} {op : Oper} {a : Act} {w : World} {Q : Exit → Act → World → Prop} (hgd : op.guard = none) (v : Value)
    (hv : (execOp a.eval op).run P w = .ok (.value v) w) (h : wpList P ops Q rest (a.put op.dst v) w) : wpList P ops Q (op :: rest) a w :=
  wpList_plain hgd fun _ hK => by
    unfold Oper.wp
    rw [hv]
    exact hK _ _ h
theorem setCells_part {b : Nat} {t : TypeId} {fr : Nat × Nat} : ∀ (vs pre mid post : List Value) (w : World), w.heap[b]? = some (.cells (pre ++ mid ++ post).toArray t fr) → vs.length = mid.length →
    (w.setCells b pre.length vs).heap[b]? = some (.cells (pre ++ vs ++ post).toArray t fr)
  | [], pre, mid, post, w, h, hl => by
    have : mid = [] := List.length_eq_zero_iff.1 hl.symm
    subst this; exact h
  | v :: vs, pre, mid, post, w, h, hl => by
    obtain ⟨r, mid', rfl⟩ : ∃ r mid', mid = r :: mid' := by
      cases mid with
      | nil => simp at hl
      | cons a l => exact ⟨a, l, rfl⟩
    rw [World.setCells]
    have h1 := setCell_blk (i := pre.length) (x := v) h
    have e : ((pre ++ r :: mid' ++ post).toArray.setIfInBounds pre.length v) = ((pre ++ [v]) ++ mid' ++ post).toArray := by
      rw [List.setIfInBounds_toArray, List.append_assoc, List.set_append_right _ _ (Nat.le_refl _), Nat.sub_self, List.cons_append, List.set_cons_zero]
      simp
    rw [e] at h1
    have h2 := setCells_part vs (pre ++ [v]) mid' post _ h1 (by simpa using hl)
    rw [List.length_append, List.length_singleton] at h2
    rw [h2]; simp
theorem Upd.setPart {S : Nat} {mid post : List Value} {t : TypeId} {W W' : World} (h : Upd S (mid ++ post).toArray t W W') (vs : List Value) (hl : vs.length = mid.length) : Upd S (vs ++ post).toArray t W (W'.setCells S 0 vs) := by
  obtain ⟨h1, h2, h3, h4⟩ := setCells_same (b := S) vs 0 W'
  refine ⟨h1.trans h.os, h2.trans h.tape, h3.trans h.output, h4.trans h.size, ?_, fun k hk => (setCells_off vs 0 W' k hk).trans (h.off k hk)⟩
  have := setCells_part (b := S) (t := t) (fr := (0, 0)) vs [] mid post W' (by simpa using h.here) hl
  simpa using this
/-- copy, of elements of one cell -/
theorem wp_copy_cells {P : Program} {w : World} {op : Oper} {a : Act} {K : Act → World → Prop} {Q : Exit → Act → World → Prop} (d s : Operand) (dT sT elem : TypeId) (hop : op.op = Op.call { callee := Callee.builtin Builtin.copy, args := #[d, s], argTypes := #[dT, sT] })
    (b o dLen dCap : Nat) (ad : Addr) (sLen sCap : Nat) (cs : List Value) (hd : a.eval d = .slice (some ⟨b, o, none⟩) dLen dCap) (hs' : a.eval s = .slice (some ad) sLen sCap)
    (hu : P.underlying dT = some (.slice elem)) (hs : (P.info? elem).map (·.size) = some 1) (hn : cs.length = Nat.min sLen dLen)
    (hsrc : ∀ j v, cs[j]? = some v → w.cell? (ad.add j) = some v) (hc : ∀ j, j < cs.length → (w.cell? ⟨b, o + j, none⟩).isSome = true) (hf : ∀ j, j < cs.length → w.frozen? ⟨b, o + j, none⟩ = false) (h1 : ∀ v ∈ cs, v.oneCell' = true)
    (hK : K (a.put op.dst (goInt cs.length)) (w.setCells b o cs)) : op.wp P a w K Q := by
  have hrun := run_copy_cells (P := P) w dT sT op.type elem b o dLen dCap ad sLen sCap cs hu hs hn hsrc hc hf h1
  unfold Oper.wp
  simp [execOp, hop, resolve, invoke, builtin, hd, hs', hrun, Result.andThen]
  exact hK
/-- a row is answered -/
theorem outRow {P : Program} {fn : Func} {ty t : TypeId} {p : Tmp} {n₀ : Nat} {W : World} {a : Act} {R : Ending → World → Prop} {cs : Array Value} {fr : Nat × Nat} (hf : fn.results = #[.cell p ty])
    (h2 : W.heap[n₀]? = some (.cells cs t fr)) (e2 : a.tmps.getD p undef = .pointer (some ⟨n₀, 0, none⟩)) (hd : a.defers = [])
    (hk : (P.underlying ty).map TypeDesc.isRow = some true) (hi : (P.info? ty).map (·.size) = some cs.size) (hR : R (.returned (.agg cs)) W) : bodyPost P fn R .ret a W := by
  obtain ⟨d, hu, hr⟩ := Option.map_eq_some_iff.1 hk
  exact bodyPost_ret (results_cell_row hf _ _ n₀ _ _ _ d e2 h2 hu (by cases d <;> first | rfl | cases hr) hi) hd hR
end Go.Proofs.Ytomgjapjeckokaa
