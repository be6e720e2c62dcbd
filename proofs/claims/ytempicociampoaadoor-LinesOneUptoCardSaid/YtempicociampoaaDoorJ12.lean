/- The walk of items.Text. Long rows, whole: stored, read, answered. A part of a slice, whatever slice it is. Plain laws of breaks: how bad a line is, its demerits, ways, the best one of all. -/
import Derived.Test.YtempicociampoaaDoorJ11
import Derived.Test.YtempicociampoaaDoorBlk
import Derived.Deep.MidRow
import Derived.BigFrame
import Derived.Deep.RegionHeld3
import Derived.Test.YtempicociampoaaDoorJ1
namespace Go.Proofs.YtempicociampoaaDoor
open Go.RowKit Go.Shelf

/-- what one item says -/
def textOf (x : It) : List UInt8 := if x.kind = 1 then x.text.data.toList else if x.kind = 2 then [32] else []
/-- the text of items -/
def textB (l : List It) : List UInt8 := l.flatMap textOf
theorem textB_append (a b : List It) : textB (a ++ b) = textB a ++ textB b := by simp [textB]
theorem byteCells_app (a b : List UInt8) : Lib.byteCells (a ++ b) = Lib.byteCells a ++ Lib.byteCells b := by simp [Lib.byteCells]

end Go.Proofs.YtempicociampoaaDoor
namespace Go.Proofs.YtempicociampoaaDoor
open Go.RowKit

theorem setCells_row {b : Nat} {t : TypeId} {fr : Nat × Nat} : ∀ (vs pre rest : List Value) (w : World), w.heap[b]? = some (.cells (pre ++ rest).toArray t fr) → vs.length = rest.length →
    (w.setCells b pre.length vs).heap[b]? = some (.cells (pre ++ vs).toArray t fr)
  | [], pre, rest, w, h, hl => by
    have : rest = [] := List.length_eq_zero_iff.1 hl.symm
    subst this; exact h
  | v :: vs, pre, rest, w, h, hl => by
    obtain ⟨r, rest', rfl⟩ : ∃ r rest', rest = r :: rest' := by
      cases rest with
      | nil => simp at hl
      | cons a l => exact ⟨a, l, rfl⟩
    rw [World.setCells]
    have h1 := setCell_blk (i := pre.length) (x := v) h
    have e : ((pre ++ r :: rest').toArray.setIfInBounds pre.length v) = ((pre ++ [v]) ++ rest').toArray := by
      rw [List.setIfInBounds_toArray, List.set_append_right _ _ (Nat.le_refl _), Nat.sub_self, List.set_cons_zero, List.append_assoc]; rfl
    rw [e] at h1
    have h2 := setCells_row vs (pre ++ [v]) rest' _ h1 (by simpa using hl)
    rw [List.length_append, List.length_singleton, List.append_assoc] at h2
    exact h2
theorem setCells_off {b : Nat} : ∀ (vs : List Value) (o : Nat) (w : World) (k : Nat), k ≠ b → (w.setCells b o vs).heap[k]? = w.heap[k]?
  | [], _, _, _, _ => rfl
  | v :: vs, o, w, k, h => by rw [World.setCells, setCells_off vs _ _ k h, setCell_off h]
theorem setCells_same {b : Nat} : ∀ (vs : List Value) (o : Nat) (w : World), (w.setCells b o vs).os = w.os ∧ (w.setCells b o vs).tape = w.tape ∧ (w.setCells b o vs).output = w.output ∧ (w.setCells b o vs).heap.size = w.heap.size
  | [], _, _ => ⟨rfl, rfl, rfl, rfl⟩
  | v :: vs, o, w => by
    rw [World.setCells]
    obtain ⟨h1, h2, h3, h4⟩ := setCells_same vs (o + 1) (w.setCell ⟨b, o, none⟩ v)
    exact ⟨h1, h2, h3, by rw [h4]; simp [World.setCell]⟩
theorem Upd.setCells {S : Nat} {cs : Array Value} {t : TypeId} {W W' : World} (h : Upd S cs t W W') (vs : List Value) (hl : vs.length = cs.size) : Upd S vs.toArray t W (W'.setCells S 0 vs) := by
  obtain ⟨h1, h2, h3, h4⟩ := setCells_same (b := S) vs 0 W'
  refine ⟨h1.trans h.os, h2.trans h.tape, h3.trans h.output, h4.trans h.size, ?_, fun k hk => (setCells_off vs 0 W' k hk).trans (h.off k hk)⟩
  have := setCells_row (b := S) (t := t) (fr := (0, 0)) vs [] cs.toList W' (by simpa using h.here) (by simpa using hl)
  simpa using this
theorem there_blk {w : World} {b : Nat} {cs : Array Value} {t : TypeId} (h : w.heap[b]? = some (.cells cs t (0, 0))) {n : Nat} (hn : n = cs.size) : w.there b 0 n := by
  subst hn
  intro j hj
  refine ⟨?_, frozen_blk h⟩
  rw [Nat.zero_add, cell_blk h (Array.getElem?_eq_getElem hj)]; rfl
theorem range_blk {w : World} {b : Nat} {cs : List Value} {t : TypeId} {fr : Nat × Nat} (h : w.heap[b]? = some (.cells cs.toArray t fr)) : w.rangeAt b 0 cs := by
  intro j v hv
  rw [Nat.zero_add]
  exact cell_blk h (by simpa using hv)
/-- an operation that yields without a look at the world -/
theorem wpList_yield {P : Program} {ops : Array Oper} {rest : List Oper} {op : Oper} {a : Act} {w : World} {Q : Exit → Act → World → Prop} (hgd : op.guard = none) (v : Value)
    (hv : (execOp a.eval op).run P w = .ok (.value v) w) (h : wpList P ops Q rest (a.put op.dst v) w) : wpList P ops Q (op :: rest) a w :=
  wpList_plain hgd fun _ hK => by
    unfold Oper.wp
    rw [hv]
    exact hK _ _ h
/-- a row is answered -/
theorem outRow {P : Program} {fn : Func} {ty t : TypeId} {p : Tmp} {n₀ : Nat} {W : World} {a : Act} {R : Ending → World → Prop} {cs : Array Value} {fr : Nat × Nat} (hf : fn.results = #[.cell p ty])
    (h2 : W.heap[n₀]? = some (.cells cs t fr)) (e2 : a.tmps.getD p undef = .pointer (some ⟨n₀, 0, none⟩)) (hd : a.defers = [])
    (hk : (P.underlying ty).map TypeDesc.isRow = some true) (hi : (P.info? ty).map (·.size) = some cs.size) (hR : R (.returned (.agg cs)) W) : bodyPost P fn R .ret a W := by
  obtain ⟨d, hu, hr⟩ := Option.map_eq_some_iff.1 hk
  exact bodyPost_ret (results_cell_row hf _ _ n₀ _ _ _ d e2 h2 hu (by cases d <;> first | rfl | cases hr) hi) hd hR
end Go.Proofs.YtempicociampoaaDoor
namespace Go.Proofs.YtempicociampoaaDoor
open Go.RowKit Go.Shelf Go.Lib

section
variable {P : Program}
theorem run_slice_lit (W : World) (t e : TypeId) (K : Nat) (hu : P.underlying t = some (.slice e)) (hK : (P.info? e).map (·.size) = some K) (a : Option Addr) (L c : Nat) (lo hi : Option Value) (l h : Nat)
    (hb : (Instr.sliceBounds true L c lo hi none).run P W = .ok (l, h, c) W) : (Instr.sliceAt t (.slice a L c) lo hi none).run P W = .ok (.slice (if c = l then a else a.map (·.add (l * K))) (h - l) (c - l)) W := by
  obtain ⟨i, hi0, hi1⟩ := Option.map_eq_some_iff.1 hK
  have he : P.elem t = e := by simp [Program.elem, hu]
  rw [run_sliceAt_slice _ t _ _ _ _ (by rw [he]; exact hu)]
  simp [Instr.slice, run_underlying hu, hb, sizeOf, typeInfo, hi0, hi1]
theorem slice_take {α : Type} {enc : α → List Value} (t e : TypeId) (K : Nat) (hu : P.underlying t = some (.slice e)) (hK : (P.info? e).map (·.size) = some K) {v : Value} {l : List α} {k : Nat} (hk : k ≤ l.length) {W0 : World} (h0 : Sl W0 K enc v l) :
    ∃ s, (∀ W, (Instr.sliceAt t v none (some (.int .i64 k)) none).run P W = .ok s W) ∧ (∀ W, Sl W K enc v l → Sl W K enc s (l.take k)) ∧ ∃ p c, s = .slice p k c := by
  obtain ⟨a, c, rfl, hc⟩ : ∃ a c, v = .slice a l.length c ∧ l.length ≤ c := by
    rcases h0 with ⟨rfl, rfl⟩ | ⟨a, c, rfl, h1, -⟩
    · exact ⟨none, 0, rfl, Nat.le_refl _⟩
    · exact ⟨some a, c, rfl, h1⟩
  refine ⟨.slice a k c, fun W => ?_, fun W h => ?_, a, c, rfl⟩
  · have hb : (Instr.sliceBounds true l.length c none (some (.int .i64 (k : Int))) none).run P W = .ok (0, k, c) W := by
      have h9 : (k : Int) ≤ (c : Int) := by omega
      simp [Instr.sliceBounds, run_sliceBound _ _ _ _ _ (show (0 : Int) ≤ (k : Int) by omega) h9]
    rw [run_slice_lit W t e K hu hK a _ c _ _ 0 k hb]
    have : a.map (fun x => x.add 0) = a := by
      cases a with
      | none => rfl
      | some x => rw [Option.map_some]; unfold Addr.add; rw [if_pos rfl]
    split <;> simp [this]
  · have hlk : (l.take k).length = k := by simp; omega
    rcases h with ⟨h, rfl⟩ | ⟨a', cap, h, h1, h2, h3, h4⟩
    · cases h
      simp at hk
      subst hk
      exact .inl ⟨rfl, rfl⟩
    · simp only [Value.slice.injEq] at h
      obtain ⟨rfl, -, rfl⟩ := h
      refine .inr ⟨a', c, by rw [hlk], by rw [hlk]; omega, h2, fun hne => h3 (by rintro rfl; simp at hne), fun i x hx => h4 i x ?_⟩
      rw [List.getElem?_take] at hx
      split at hx
      · exact hx
      · cases hx
theorem yieldsIf_slice {ops : Array Oper} {S : World → Prop} {op : Oper} {a : Act} (hw : Region.wanted op (yielded ops a.tmps) = true) (t : TypeId) (x : Operand) (lo hi : Option Operand) (ho : op.op = .slice t x lo hi none) (v : Value)
    (h : ∀ w, (Instr.sliceAt t (a.eval x) (lo.map a.eval) (hi.map a.eval) none).run P w = .ok v w) : YieldsIf P ops S op v a :=
  .inl ⟨hw, fun w _ => by
    unfold execOp
    simp only [ho, Sem.run_bind, Option.map_none, h w, Result.andThen_ok]; rfl⟩
end
/-- a part of a slice, in a plain region -/
theorem wpList_slice {P : Program} {ops : Array Oper} {rest : List Oper} {op : Oper} {a : Act} {w : World} {Q : Exit → Act → World → Prop} (hgd : op.guard = none) (t : TypeId) (x : Operand) (lo hi : Option Operand) (ho : op.op = .slice t x lo hi none) (v : Value)
    (h : ∀ w, (Instr.sliceAt t (a.eval x) (lo.map a.eval) (hi.map a.eval) none).run P w = .ok v w) (hk : wpList P ops Q rest (a.put op.dst v) w) : wpList P ops Q (op :: rest) a w :=
  wpList_yield hgd v (by
    unfold execOp
    simp only [ho, Sem.run_bind, Option.map_none, h w, Result.andThen_ok]; rfl) hk
end Go.Proofs.YtempicociampoaaDoor
namespace Go.Proofs.YtempicociampoaaDoor
open Go.RowKit

/-- a number between two others -/
def cutI (n lo hi : Int) : Int := max lo (min n hi)
theorem cutI_bd {n lo hi : Int} (h : lo ≤ hi) : lo ≤ cutI n lo hi ∧ cutI n lo hi ≤ hi := by unfold cutI; omega
/-- how bad a line is; false: it can't be (of numbers that are cut) -/
def badO (d y z : Int) : Int × Bool :=
  if d = 0 then (0, true)
  else if 0 < d then (if y = 0 then (10000, true) else (min ((100 * (d * d * d)).tdiv (y * y * y)) 10000, true))
  else if z < -d then (0, false) else ((100 * (-d * -d * -d)).tdiv (z * z * z), true)
def badS (d y z : Int) : Int × Bool := badO (cutI d (-10000) 10000) (cutI y 0 10000) (cutI z 0 10000)
def demS (bad cost : Int) (twice : Bool) : Int := (10 + cutI bad 0 10000) * (10 + cutI bad 0 10000) + cutI cost 0 10000 * cutI cost 0 10000 + if twice then 3000 else 0
theorem demS_bd (bad cost : Int) (twice : Bool) : 0 ≤ demS bad cost twice ∧ demS bad cost twice ≤ 1000000000 := by
  unfold demS
  obtain ⟨h1, h2⟩ := cutI_bd (n := bad) (lo := 0) (hi := 10000) (by omega)
  obtain ⟨h3, h4⟩ := cutI_bd (n := cost) (lo := 0) (hi := 10000) (by omega)
  generalize cutI bad 0 10000 = b at *
  generalize cutI cost 0 10000 = c at *
  have hb : (10 + b) * (10 + b) ≤ 10010 * 10010 := Int.mul_le_mul (by omega) (by omega) (by omega) (by omega)
  have hb0 : 0 ≤ (10 + b) * (10 + b) := Int.mul_nonneg (by omega) (by omega)
  have hc : c * c ≤ 10000 * 10000 := Int.mul_le_mul (by omega) (by omega) (by omega) (by omega)
  have hc0 : 0 ≤ c * c := Int.mul_nonneg (by omega) (by omega)
  split <;> omega
theorem badS_no {d y z : Int} (h : (badS d y z).2 = false) : d < 0 ∧ cutI z 0 10000 < -cutI d (-10000) 10000 := by
  unfold badS badO at h
  split at h
  · cases h
  · split at h
    · split at h <;> cases h
    · rename_i h1 h2
      split at h
      · rename_i h3
        exact ⟨by unfold cutI at h1 h2; omega, h3⟩
      · cases h

structure Li where
  dem : Int
  over : Bool
  may : Bool
def penAt (l : List It) (n : Int) : Bool := decide (0 ≤ n) && isPen l n.toNat
def costAt (l : List It) (t : Nat) : Int := match l[t]? with | some x => if x.kind = 3 then plain x.cost else 0 | none => 0
/-- how bad the line from n to t is -/
def lbad (l : List It) (wd n : Int) (t : Nat) : Int × Bool :=
  if t = l.length ∧ 0 ≤ wd - (lineSm l (firstL l n) t).w then (0, true) else badS (wd - (lineSm l (firstL l n) t).w) (lineSm l (firstL l n) t).y (lineSm l (firstL l n) t).z
/-- a line's demerits, whether it is overfull, whether it may be -/
def liS (l : List It) (wd tol n : Int) (t : Nat) : Li :=
  if (lbad l wd n t).2 = true then ⟨demS (lbad l wd n t).1 (costAt l t) (penAt l n && isPen l t), false, decide ((lbad l wd n t).1 ≤ tol)⟩
  else ⟨100000000000 * (min (-(wd - (lineSm l (firstL l n) t).w)) 10000 - min (lineSm l (firstL l n) t).z 10000), true, false⟩
theorem li_bd (l : List It) (wd tol n : Int) (t : Nat) : 0 ≤ (liS l wd tol n t).dem ∧ (liS l wd tol n t).dem ≤ 1000000000000000 := by
  unfold liS
  split
  · have := demS_bd (lbad l wd n t).1 (costAt l t) (penAt l n && isPen l t)
    dsimp only
    omega
  · rename_i h
    have hz := (lineSm_bd l (firstL l n) t).2.2.1
    unfold lbad at h
    split at h
    · exact absurd rfl h
    · obtain ⟨h1, h2⟩ := badS_no (by simpa using h)
      unfold cutI at h2
      dsimp only
      omega

structure Wy where
  br : List Int
  tot : Int
  ov : Int
/-- lists in order -/
def lessI : List Int → List Int → Bool
  | [], [] => false
  | [], _ :: _ => true
  | _ :: _, [] => false
  | a :: x, b :: y => if a = b then lessI x y else decide (a < b)
/-- lists held against each other: below 0, 0, above 0 -/
def cmpL : List Int → List Int → Int
  | [], [] => 0
  | [], _ :: _ => -1
  | _ :: _, [] => 1
  | a :: x, b :: y => if a < b then -1 else if b < a then 1 else cmpL x y
theorem lessI_cmp : ∀ a b : List Int, lessI a b = decide (cmpL a b < 0)
  | [], [] => rfl
  | [], _ :: _ => rfl
  | _ :: _, [] => rfl
  | a :: x, b :: y => by
    rw [lessI, cmpL]
    by_cases h : a = b
    · rw [if_pos h, if_neg (by omega), if_neg (by omega)]
      exact lessI_cmp x y
    · rw [if_neg h]
      by_cases h1 : a < b
      · rw [if_pos h1, decide_eq_true h1]; rfl
      · rw [if_neg h1, if_pos (by omega), decide_eq_false h1]; rfl
theorem cmpL_at {a b : List Int} {k : Nat} {x y : Int} (h1 : a[k]? = some x) (h2 : b[k]? = some y) : cmpL (a.drop k) (b.drop k) = if x < y then -1 else if y < x then 1 else cmpL (a.drop (k + 1)) (b.drop (k + 1)) := by
  obtain ⟨h3, h4⟩ := List.getElem?_eq_some_iff.1 h1
  obtain ⟨h5, h6⟩ := List.getElem?_eq_some_iff.1 h2
  rw [List.drop_eq_getElem_cons h3, List.drop_eq_getElem_cons h5, h4, h6, cmpL]
theorem cmpL_long {a b : List Int} {k : Nat} (h1 : k < a.length) (h2 : b.length ≤ k) : cmpL (a.drop k) (b.drop k) = 1 := by
  rw [List.drop_eq_getElem_cons h1, List.drop_eq_nil_of_le h2, cmpL]
theorem cmpL_end {a b : List Int} {k : Nat} (h1 : a.length ≤ k) : cmpL (a.drop k) (b.drop k) = if k < b.length then -1 else 0 := by
  rw [List.drop_eq_nil_of_le h1]
  by_cases h : k < b.length
  · rw [List.drop_eq_getElem_cons h, if_pos h, cmpL]
  · rw [List.drop_eq_nil_of_le (by omega), if_neg h, cmpL]
theorem mulB_bd {a b A B : Int} (h1 : -A ≤ a) (h2 : a ≤ A) (h3 : -B ≤ b) (h4 : b ≤ B) : -(A * B) ≤ a * b ∧ a * b ≤ A * B := by
  have e1 := Int.mul_nonneg (show 0 ≤ A - a by omega) (show 0 ≤ B - b by omega)
  have e2 := Int.mul_nonneg (show 0 ≤ A + a by omega) (show 0 ≤ B + b by omega)
  have e3 := Int.mul_nonneg (show 0 ≤ A - a by omega) (show 0 ≤ B + b by omega)
  have e4 := Int.mul_nonneg (show 0 ≤ A + a by omega) (show 0 ≤ B - b by omega)
  simp only [Int.sub_mul, Int.mul_sub, Int.add_mul, Int.mul_add] at e1 e2 e3 e4
  omega
def betterW (a b : Wy) : Bool := if a.tot = b.tot then lessI a.br b.br else decide (a.tot < b.tot)
def offerW (c : Option Wy) (w : Wy) : Option Wy := match c with | none => some w | some v => if betterW w v = true then some w else some v
/-- a way with a line more -/
def moreW (v : Wy) (x : Li) (t : Int) : Wy := ⟨v.br ++ [t], v.tot + x.dem, v.ov + if x.over = true then 1 else 0⟩
def tryW (l : List It) (wd tol : Int) (all : Bool) (n : Int) (t : Nat) (v c : Option Wy) : Option Wy := match v with
  | none => c
  | some v => if firstL l n < t then (if (all || (liS l wd tol n t).may) = true then offerW c (moreW v (liS l wd tol n t) t) else c) else c
/-- the best way to t of those by the first i places -/
def foldW (l : List It) (wd tol : Int) (all : Bool) (pl : List Int) (fs : List (Option Wy)) (t : Nat) : Nat → Option Wy
  | 0 => none
  | i + 1 => tryW l wd tol all (pl.getD i 0) t (fs.getD i none) (foldW l wd tol all pl fs t i)
/-- the best ways to the places 0 to k -/
def foundW (l : List It) (wd tol : Int) (all : Bool) (pl : List Int) : Nat → List (Option Wy)
  | 0 => [some ⟨[], 0, 0⟩]
  | k + 1 => foundW l wd tol all pl k ++ [foldW l wd tol all pl (foundW l wd tol all pl k) (pl.getD (k + 1) 0).toNat (k + 1)]
theorem found_len (l : List It) (wd tol : Int) (all : Bool) (pl : List Int) : ∀ k, (foundW l wd tol all pl k).length = k + 1
  | 0 => rfl
  | k + 1 => by rw [foundW, List.length_append, found_len l wd tol all pl k]; rfl
def Wy.bd (w : Wy) (k : Nat) : Prop := w.br.length ≤ k ∧ 0 ≤ w.tot ∧ w.tot ≤ 1000000000000000 * (k : Int) ∧ 0 ≤ w.ov ∧ w.ov ≤ (k : Int)
theorem Wy.bd_mono {w : Wy} {k m : Nat} (h : w.bd k) (hk : k ≤ m) : w.bd m := by
  obtain ⟨a, b, c, d, e⟩ := h
  exact ⟨by omega, b, by omega, d, by omega⟩
theorem more_bd {v : Wy} {k : Nat} (h : v.bd k) (l : List It) (wd tol n : Int) (t : Nat) (x : Int) : (moreW v (liS l wd tol n t) x).bd (k + 1) := by
  obtain ⟨a, b, c, d, e⟩ := h
  have := li_bd l wd tol n t
  unfold moreW
  refine ⟨by simp; omega, by dsimp only; omega, by dsimp only; omega, ?_, ?_⟩
  · dsimp only; split <;> omega
  · dsimp only; split <;> omega
theorem offer_bd {c : Option Wy} {w : Wy} {k : Nat} (hc : ∀ v : Wy, c = some v → v.bd k) (hw : w.bd k) : ∀ v : Wy, offerW c w = some v → v.bd k := fun v hv => by
  unfold offerW at hv
  split at hv
  · cases hv; exact hw
  · split at hv
    · cases hv; exact hw
    · cases hv; exact hc _ rfl
theorem fold_bd {l : List It} {wd tol : Int} {all : Bool} {pl : List Int} {fs : List (Option Wy)} {t k : Nat} (hf : ∀ (i : Nat) (v : Wy), fs[i]? = some (some v) → v.bd k) : ∀ (i : Nat) (v : Wy), foldW l wd tol all pl fs t i = some v → v.bd (k + 1)
  | 0, v, h => by cases h
  | i + 1, v, h => by
    have ih := fold_bd (l := l) (wd := wd) (tol := tol) (all := all) (pl := pl) (t := t) hf i
    unfold foldW tryW at h
    split at h
    · exact ih v h
    · rename_i u hu
      have hu2 : u.bd k := by
        rw [List.getD_eq_getElem?_getD] at hu
        cases hg : fs[i]? with
        | none => rw [hg] at hu; cases hu
        | some y => rw [hg] at hu; exact hf i u (by rw [hg]; exact congrArg some hu)
      split at h
      · split at h
        · exact offer_bd ih (more_bd hu2 l wd tol _ t _) v h
        · exact ih v h
      · exact ih v h
theorem found_bd (l : List It) (wd tol : Int) (all : Bool) (pl : List Int) : ∀ (k i : Nat) (v : Wy), (foundW l wd tol all pl k)[i]? = some (some v) → v.bd k
  | 0, i, v, h => by
    match i, h with
    | 0, h => cases h; exact ⟨by simp, by simp, by simp, by simp, by simp⟩
    | i + 1, h => simp [foundW] at h
  | k + 1, i, v, h => by
    have ih := found_bd l wd tol all pl k
    rw [foundW] at h
    by_cases hi : i < (foundW l wd tol all pl k).length
    · rw [List.getElem?_append_left hi] at h
      exact Wy.bd_mono (ih i v h) (by omega)
    · rw [List.getElem?_append_right (by omega)] at h
      cases hj : i - (foundW l wd tol all pl k).length with
      | zero =>
        rw [hj] at h
        exact fold_bd ih _ v (Option.some.inj h)
      | succ j => rw [hj] at h; simp at h
theorem may_dem {l : List It} {wd tol n : Int} {t : Nat} (h : (liS l wd tol n t).may = true) : (liS l wd tol n t).over = false ∧ 100 ≤ (liS l wd tol n t).dem := by
  unfold liS at h ⊢
  split
  · refine ⟨rfl, ?_⟩
    dsimp only
    unfold demS
    obtain ⟨h1, -⟩ := cutI_bd (n := (lbad l wd n t).1) (lo := 0) (hi := 10000) (by omega)
    obtain ⟨h3, -⟩ := cutI_bd (n := costAt l t) (lo := 0) (hi := 10000) (by omega)
    generalize cutI (lbad l wd n t).1 0 10000 = b at *
    generalize cutI (costAt l t) 0 10000 = c at *
    have hb : 10 * 10 ≤ (10 + b) * (10 + b) := Int.mul_le_mul (by omega) (by omega) (by omega) (by omega)
    have hc : 0 ≤ c * c := Int.mul_nonneg (by omega) (by omega)
    split <;> omega
  · rename_i h9
    rw [if_neg h9] at h
    cases h
/-- of ways whose lines all may be: none is cheaper than its lines' least -/
theorem fold_ge {l : List It} {wd tol : Int} {pl : List Int} {fs : List (Option Wy)} {t : Nat} (hf : ∀ (i : Nat) (v : Wy), fs[i]? = some (some v) → 0 ≤ v.tot) : ∀ (i : Nat) (v : Wy), foldW l wd tol false pl fs t i = some v → 100 ≤ v.tot
  | 0, v, h => by cases h
  | i + 1, v, h => by
    have ih := fold_ge (l := l) (wd := wd) (tol := tol) (pl := pl) (t := t) hf i
    unfold foldW tryW at h
    split at h
    · exact ih v h
    · rename_i u hu
      have hu2 : 0 ≤ u.tot := by
        rw [List.getD_eq_getElem?_getD] at hu
        cases hg : fs[i]? with
        | none => rw [hg] at hu; cases hu
        | some y => rw [hg] at hu; exact hf i u (by rw [hg]; exact congrArg some hu)
      split at h
      · split at h
        · rename_i hm
          have hd := (may_dem (by rwa [Bool.false_or] at hm)).2
          unfold offerW at h
          split at h
          · cases h; unfold moreW; dsimp only; omega
          · rename_i c hc
            split at h
            · cases h; unfold moreW; dsimp only; omega
            · cases h; exact ih _ hc
        · exact ih v h
      · exact ih v h
theorem found_ge (l : List It) (wd tol : Int) (pl : List Int) : ∀ (k i : Nat) (v : Wy), (foundW l wd tol false pl k)[i]? = some (some v) → 0 ≤ v.tot ∧ (0 < i → 100 ≤ v.tot)
  | 0, i, v, h => by
    match i, h with
    | 0, h => cases h; exact ⟨by simp, fun h => by omega⟩
    | i + 1, h => simp [foundW] at h
  | k + 1, i, v, h => by
    have ih := found_ge l wd tol pl k
    rw [foundW] at h
    by_cases hi : i < (foundW l wd tol false pl k).length
    · rw [List.getElem?_append_left hi] at h
      exact ih i v h
    · rw [List.getElem?_append_right (by omega)] at h
      cases hj : i - (foundW l wd tol false pl k).length with
      | zero =>
        rw [hj] at h
        have := fold_ge (fun i v hv => (ih i v hv).1) _ v (Option.some.inj h)
        exact ⟨by omega, fun _ => this⟩
      | succ j => rw [hj] at h; simp at h
/-- a line of all, where it may be and costs the least that a line costs, is the best way -/
theorem fold_one {l : List It} {wd tol : Int} {pl : List Int} {fs : List (Option Wy)} {t : Nat} (h0 : fs[0]? = some (some ⟨[], 0, 0⟩)) (hf : ∀ (i : Nat) (v : Wy), fs[i]? = some (some v) → 0 ≤ v.tot ∧ (0 < i → 100 ≤ v.tot))
    (hb : firstL l (pl.getD 0 0) < t) (hm : (liS l wd tol (pl.getD 0 0) t).may = true) (hd : (liS l wd tol (pl.getD 0 0) t).dem = 100) : ∀ i, foldW l wd tol false pl fs t (i + 1) = some ⟨[(t : Int)], 100, 0⟩
  | 0 => by
    have ho := (may_dem hm).1
    rw [foldW, foldW, List.getD_eq_getElem?_getD (l := fs), h0]
    show tryW l wd tol false (pl.getD 0 0) t (some ⟨[], 0, 0⟩) none = _
    unfold tryW
    dsimp only
    rw [if_pos hb, if_pos (by rw [hm]; rfl)]
    unfold offerW moreW
    dsimp only
    rw [hd, ho]; rfl
  | i + 1 => by
    have ih := fold_one h0 hf hb hm hd i
    rw [foldW, ih]
    unfold tryW
    split
    · rfl
    · rename_i u hu
      have hu2 : 100 ≤ u.tot := by
        rw [List.getD_eq_getElem?_getD] at hu
        cases hg : fs[i + 1]? with
        | none => rw [hg] at hu; cases hu
        | some y => rw [hg] at hu; exact (hf (i + 1) u (by rw [hg]; exact congrArg some hu)).2 (by omega)
      split
      · split
        · rename_i hmm
          have hd2 := (may_dem (by rwa [Bool.false_or] at hmm)).2
          unfold offerW
          dsimp only
          rw [if_neg]
          unfold betterW moreW
          dsimp only
          rw [if_neg (by omega)]
          simp only [decide_eq_true_eq]; omega
        · rfl
      · rfl
def bestW (l : List It) (wd tol : Int) (all : Bool) (pl : List Int) : Option Wy := (foundW l wd tol all pl (pl.length - 1)).getLast?.getD none
end Go.Proofs.YtempicociampoaaDoor
