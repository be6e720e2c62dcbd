/- Copies of rows of many cells a member, over any program; what stands in a row behind two copies. -/
import Derived.Test.YtomgjapjeckokaaIxV
import Derived.Laws.CopyRow
import Derived.Lib.Overlaps
import Derived.Lib.AppendZerosOnto
namespace Go.Proofs.Ytomgjapjeckokaa
open Go.RowKit Go.Shelf Go.Lib

section
variable {P : Program}
theorem run_copy_rowk (w : World) (dT sT ty elem : TypeId) (g o dLen dCap : Nat) (a : Addr) (sLen sCap : Nat) (cur : Array Value) (t : TypeId) (cs : List Value) (k n : Nat)
    (hu : P.underlying dT = some (.slice elem)) (hs : (P.info? elem).map (·.size) = some k)
    (hg : w.heap[g]? = some (.cells cur t (0, 0))) (hn : Nat.min sLen dLen = n) (hl : cs.length = n * k)
    (hsrc : ∀ j v, cs[j]? = some v → w.cell? (a.add j) = some v) (hfit : o + cs.length ≤ cur.size) (h1 : ∀ v ∈ cs, v.oneCell' = true) :
    (Builtin.copy_ #[dT, sT] ty #[.slice (some ⟨g, o, none⟩) dLen dCap, .slice (some a) sLen sCap]).run P w =
      .ok (goInt n) (w.setRow g (cur.toList.take o ++ cs ++ cur.toList.drop (o + cs.length)).toArray) := by
  have hl' := run_loadCells_list (P := P) w a cs hsrc
  have hst := run_storeCells_at P g o t cs 0 cur w hg (by simpa using hfit) h1
  cases hq : P.info? elem with
  | none => simp [hq] at hs
  | some i =>
    have hi : i.size = k := by simpa [hq] using hs
    simp [Builtin.copy_, run_underlying hu, Builtin.lenOf, Builtin.firstCells, sizeOf, typeInfo, hq, hi, hn, ← hl, hl', hst]

theorem wp_copy_rowk {w : World} {op : Oper} {a : Act} {K : Act → World → Prop} {Q : Exit → Act → World → Prop} (d s : Operand) (dT sT elem : TypeId) (hop : op.op = Op.call { callee := Callee.builtin Builtin.copy, args := #[d, s], argTypes := #[dT, sT] })
    (k : Nat) (hu : P.underlying dT = some (.slice elem)) (hs : (P.info? elem).map (·.size) = some k)
    (g o dLen dCap : Nat) (ad : Addr) (sLen sCap : Nat) (hd : a.eval d = .slice (some ⟨g, o, none⟩) dLen dCap) (hs' : a.eval s = .slice (some ad) sLen sCap)
    (cur : Array Value) (t : TypeId) (cs : List Value) (n : Nat) (hg : w.heap[g]? = some (.cells cur t (0, 0))) (hn : Nat.min sLen dLen = n) (hl : cs.length = n * k)
    (hsrc : ∀ j v, cs[j]? = some v → w.cell? (ad.add j) = some v) (hfit : o + cs.length ≤ cur.size) (h1 : ∀ v ∈ cs, v.oneCell' = true)
    (hK : ∀ w', w'.heap[g]? = some (.cells (cur.toList.take o ++ cs ++ cur.toList.drop (o + cs.length)).toArray t (0, 0)) → w.grownBy w' (some g) → K (a.put op.dst (goInt n)) w') : op.wp P a w K Q := by
  have hrun := run_copy_rowk (P := P) w dT sT op.type elem g o dLen dCap ad sLen sCap cur t cs k n hu hs hg hn hl hsrc hfit h1
  unfold Oper.wp
  simp [execOp, hop, resolve, invoke, builtin, hd, hs', hrun, Result.andThen]
  simp only [← List.append_assoc]
  exact hK _ (setRow_heap w g cur _ t _ hg) ⟨rfl, rfl, rfl, by simp [World.setRow], fun k _ hk => setRow_other w g k _ (fun e => hk (by rw [e]))⟩

theorem wpList_copy_rowk {w : World} {ops : Array Oper} {rest : List Oper} {op : Oper} {a : Act} {Q : Exit → Act → World → Prop} (hgd : op.guard = none) (d s : Operand) (dT sT elem : TypeId) (hop : op.op = Op.call { callee := Callee.builtin Builtin.copy, args := #[d, s], argTypes := #[dT, sT] })
    (k : Nat) (hu : P.underlying dT = some (.slice elem)) (hs : (P.info? elem).map (·.size) = some k)
    (g o dLen dCap : Nat) (ad : Addr) (sLen sCap : Nat) (hd : a.eval d = .slice (some ⟨g, o, none⟩) dLen dCap) (hs' : a.eval s = .slice (some ad) sLen sCap)
    (cur : Array Value) (t : TypeId) (cs : List Value) (n : Nat) (hg : w.heap[g]? = some (.cells cur t (0, 0))) (hn : Nat.min sLen dLen = n) (hl : cs.length = n * k)
    (hsrc : ∀ j v, cs[j]? = some v → w.cell? (ad.add j) = some v) (hfit : o + cs.length ≤ cur.size) (h1 : ∀ v ∈ cs, v.oneCell' = true)
    (hK : ∀ w', w'.heap[g]? = some (.cells (cur.toList.take o ++ cs ++ cur.toList.drop (o + cs.length)).toArray t (0, 0)) → w.grownBy w' (some g) → wpList P ops Q rest (a.put op.dst (goInt n)) w') : wpList P ops Q (op :: rest) a w :=
  wpList_plain hgd fun _ hK' => wp_copy_rowk d s dT sT elem hop k hu hs g o dLen dCap ad sLen sCap hd hs' cur t cs n hg hn hl hsrc hfit h1 fun w' h2 h3 => hK' _ _ (hK w' h2 h3)
end

/-- a row over which cells are laid from a place on -/
def spl (L : List Value) (o : Nat) (cs : List Value) : List Value := L.take o ++ cs ++ L.drop (o + cs.length)
theorem spl_len {L : List Value} {o : Nat} {cs : List Value} (h : o + cs.length ≤ L.length) : (spl L o cs).length = L.length := by
  unfold spl; simp; omega
theorem spl_at {L : List Value} {o : Nat} {cs : List Value} (h : o + cs.length ≤ L.length) (j : Nat) : (spl L o cs)[j]? = if o ≤ j ∧ j < o + cs.length then cs[j - o]? else L[j]? := by
  unfold spl
  by_cases h1 : j < o
  · rw [if_neg (by omega), List.append_assoc, List.getElem?_append_left (by simp; omega), List.getElem?_take_of_lt h1]
  · by_cases h2 : j < o + cs.length
    · rw [if_pos (by omega), List.append_assoc, List.getElem?_append_right (by simp; omega), List.getElem?_append_left (by simp; omega)]
      congr 1; simp; omega
    · rw [if_neg (by omega), List.getElem?_append_right (by simp; omega), List.getElem?_drop]
      congr 1; simp; omega
/-- behind a shift in place -/
theorem spl_shift {C X E : List Value} {o : Nat} (ho : o ≤ X.length) (hC : C.take X.length = X) (hl : X.length + E.length ≤ C.length) :
    (spl (spl C (o + E.length) (X.drop o)) o E).take (X.length + E.length) = X.take o ++ E ++ X.drop o := by
  have h1 : o + E.length + (X.drop o).length ≤ C.length := by simp; omega
  have h2 : o + E.length ≤ (spl C (o + E.length) (X.drop o)).length := by rw [spl_len h1]; omega
  refine List.ext_getElem? fun j => ?_
  have hX : ∀ j, j < X.length → C[j]? = X[j]? := fun j hj => by
    conv => rhs; rw [← hC]
    rw [List.getElem?_take_of_lt hj]
  by_cases hj : j < X.length + E.length
  · rw [List.getElem?_take_of_lt hj, spl_at h2]
    by_cases hj1 : j < o
    · rw [if_neg (by omega), spl_at h1, if_neg (by omega), hX j (by omega), List.append_assoc, List.getElem?_append_left (by simp; omega), List.getElem?_take_of_lt hj1]
    · by_cases hj2 : j < o + E.length
      · rw [if_pos (by omega), List.append_assoc, List.getElem?_append_right (by simp; omega), List.getElem?_append_left (by simp; omega)]
        congr 1; simp; omega
      · rw [if_neg (by omega), spl_at h1, if_pos (by simp; omega), List.getElem?_append_right (by simp; omega)]
        congr 1; simp; omega
  · rw [List.getElem?_eq_none (by simp; omega), List.getElem?_eq_none (by simp; omega)]
/-- behind two copies into a new row -/
theorem spl_new {C X E : List Value} {o : Nat} (ho : o ≤ X.length) (hC : C.take o = X.take o) (hl : X.length + E.length ≤ C.length) :
    (spl (spl C o E) (o + E.length) (X.drop o)).take (X.length + E.length) = X.take o ++ E ++ X.drop o := by
  have h1 : o + E.length ≤ C.length := by omega
  have h2 : o + E.length + (X.drop o).length ≤ (spl C o E).length := by rw [spl_len h1]; simp; omega
  refine List.ext_getElem? fun j => ?_
  by_cases hj : j < X.length + E.length
  · rw [List.getElem?_take_of_lt hj, spl_at h2]
    by_cases hj1 : j < o
    · rw [if_neg (by omega), spl_at h1, if_neg (by omega), List.append_assoc, List.getElem?_append_left (by simp; omega), ← hC, List.getElem?_take_of_lt hj1]
    · by_cases hj2 : j < o + E.length
      · rw [if_neg (by omega), spl_at h1, if_pos (by omega), List.append_assoc, List.getElem?_append_right (by simp; omega), List.getElem?_append_left (by simp; omega)]
        congr 1; simp; omega
      · rw [if_pos (by simp; omega), List.getElem?_append_right (by simp; omega)]
        congr 1; simp; omega
  · rw [List.getElem?_eq_none (by simp; omega), List.getElem?_eq_none (by simp; omega)]

theorem flatE_len {l : List Ent} (h : ∀ e ∈ l, e.key.length = 32) : (l.flatMap encE).length = l.length * 35 := by
  induction l with
  | nil => rfl
  | cons e l ih =>
    rw [List.flatMap_cons, List.length_append, encE_len, h e (by simp), ih (fun x hx => h x (by simp [hx])), List.length_cons]
    omega
theorem flatE_take {l : List Ent} (h : ∀ e ∈ l, e.key.length = 32) (i : Nat) (hi : i ≤ l.length) : (l.flatMap encE).take (i * 35) = (l.take i).flatMap encE := by
  conv => lhs; rw [← List.take_append_drop i l, List.flatMap_append]
  have hl := flatE_len (l := l.take i) fun e he => h e (List.mem_of_mem_take he)
  rw [List.length_take, Nat.min_eq_left hi] at hl
  rw [← hl]
  exact List.take_left
theorem flatE_drop {l : List Ent} (h : ∀ e ∈ l, e.key.length = 32) (i : Nat) (hi : i ≤ l.length) : (l.flatMap encE).drop (i * 35) = (l.drop i).flatMap encE := by
  conv => lhs; rw [← List.take_append_drop i l, List.flatMap_append]
  have hl := flatE_len (l := l.take i) fun e he => h e (List.mem_of_mem_take he)
  rw [List.length_take, Nat.min_eq_left hi] at hl
  rw [← hl]
  exact List.drop_left
theorem one_flatE {l : List Ent} {v : Value} (h : v ∈ l.flatMap encE) : v.oneCell' = true := by
  obtain ⟨e, -, he⟩ := List.mem_flatMap.1 h
  exact one_encE he
end Go.Proofs.Ytomgjapjeckokaa
