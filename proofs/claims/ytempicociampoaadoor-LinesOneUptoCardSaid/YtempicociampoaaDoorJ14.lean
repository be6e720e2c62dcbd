/- Plain laws of lines: the best breaks of items, the lines that they come to. Rows of any size of an owned slice set; the rows of found ways. Owned rows: what a write beside them leaves; append where a region draws; two results. The walk of strings.Builder's WriteByte: what is neither a builder nor bytes stands. -/
import Derived.Test.YtempicociampoaaDoorJ13
import Derived.Test.YtempicociampoaaDoorJ12
import Derived.Test.YtempicociampoaaDoorRange
import Derived.Test.YtempicociampoaaDoorJ8
import Derived.Test.YtempicociampoaaDoorJ11
namespace Go.Proofs.YtempicociampoaaDoor
open Go.RowKit

/-- where lines begin and end -/
def placesL (l : List It) : List Int := -1 :: brk l
/-- the best way of items -/
def bestS (l : List It) (wd tol : Int) : Wy :=
  if 600 < l.length ∨ ¬ firstL l (-1) < l.length then ⟨[], 0, 0⟩
  else match bestW l wd tol false (placesL l) with
    | some v => v
    | none => (bestW l wd tol true (placesL l)).getD ⟨[], 0, 0⟩
structure Ln where
  kind : Int
  first : Bool
  last : Bool
  over : Bool
  ps : List (Int × ByteArray)
/-- the lines of breaks, from a place on -/
def linesL (l : List It) (width wd tol kind : Int) : Int → Bool → List Int → List Ln
  | _, _, [] => []
  | n, f, b :: r => ⟨kind, f, r.isEmpty, (liS l wd tol n b.toNat).over, setL l n b width r.isEmpty⟩ :: linesL l width wd tol kind b false r
theorem linesL_len (l : List It) (width wd tol kind : Int) : ∀ (br : List Int) (n : Int) (f : Bool), (linesL l width wd tol kind n f br).length = br.length
  | [], _, _ => rfl
  | b :: r, _, _ => by rw [linesL, List.length_cons, linesL_len l width wd tol kind r b false, List.length_cons]
/-- one of them, by its place -/
def lineAt (l : List It) (width wd tol kind : Int) (br : List Int) (i : Nat) : Ln :=
  ⟨kind, decide (i = 0), decide (i + 1 = br.length), (liS l wd tol (lastI (-1) (br.take i)) (br.getD i 0).toNat).over, setL l (lastI (-1) (br.take i)) (br.getD i 0) width (decide (i + 1 = br.length))⟩
theorem linesL_at (l : List It) (width wd tol kind : Int) : ∀ (br : List Int) (n : Int) (f : Bool) (i : Nat), i < br.length →
    (linesL l width wd tol kind n f br)[i]? = some ⟨kind, f && decide (i = 0), decide (i + 1 = br.length), (liS l wd tol (lastI n (br.take i)) (br.getD i 0).toNat).over, setL l (lastI n (br.take i)) (br.getD i 0) width (decide (i + 1 = br.length))⟩
  | [], _, _, i, h => by simp at h
  | b :: r, n, f, 0, _ => by
    have e : r.isEmpty = decide (0 + 1 = (b :: r).length) := by cases r <;> simp
    rw [linesL, e]
    simp [lastI]
  | b :: r, n, f, i + 1, h => by
    have h' : i < r.length := by simpa using h
    rw [linesL, List.getElem?_cons_succ, linesL_at l width wd tol kind r b false i h']
    have e : decide (i + 1 = r.length) = decide (i + 1 + 1 = (b :: r).length) := by simp
    rw [e]
    simp [lastI]
theorem linesL_eq (l : List It) (width wd tol kind : Int) (br : List Int) : linesL l width wd tol kind (-1) true br = (List.range br.length).map (lineAt l width wd tol kind br) := by
  refine List.ext_getElem? fun i => ?_
  by_cases h : i < br.length
  · rw [linesL_at l width wd tol kind br (-1) true i h, List.getElem?_map, List.getElem?_range h]
    simp [lineAt]
  · rw [List.getElem?_eq_none (by rw [linesL_len]; omega), List.getElem?_eq_none (by simp; omega)]
theorem places_len (l : List It) : (placesL l).length = (brk l).length + 1 := rfl
theorem places_two (l : List It) : ∃ k, (placesL l).length = k + 2 := ⟨(brk l).length - 1, by have := brk_len l; rw [places_len]; omega⟩
theorem places_zero (l : List It) : (placesL l).getD 0 0 = -1 := rfl
theorem places_up (l : List It) : ∀ i, 0 < i → i < (placesL l).length → 0 ≤ (placesL l).getD i 0 ∧ (placesL l).getD i 0 ≤ l.length := fun i h0 h => by
  obtain ⟨j, rfl⟩ : ∃ j, i = j + 1 := ⟨i - 1, by omega⟩
  have hj : j < (brk l).length := by rw [places_len] at h; omega
  have e : (placesL l).getD (j + 1) 0 = (brk l)[j] := by
    unfold placesL
    rw [List.getD_cons_succ, List.getD_eq_getElem?_getD, List.getElem?_eq_getElem hj]; rfl
  obtain ⟨k, h1, h2, -⟩ := brk_mem (List.getElem_mem hj)
  rw [e, h1]
  omega
theorem places_end (l : List It) {k : Nat} (hk : (placesL l).length = k + 2) : (placesL l).getD (k + 1) 0 = (l.length : Int) := by
  have h1 : (brk l).length = k + 1 := by rw [places_len] at hk; omega
  unfold placesL
  rw [List.getD_cons_succ, List.getD_eq_getElem?_getD]
  unfold brk at h1 ⊢
  have h2 : (brks l l.length).length = k := by simp at h1; exact h1
  rw [List.getElem?_append_right (by omega), h2]
  simp
/-- the best way is one: legal lines, from the beginning to the end -/
theorem best_is {l : List It} (wd tol : Int) (h6 : l.length ≤ 600) (hb : firstL l (-1) < l.length) : ∃ all, Isw l wd tol all (placesL l) (-1) l.length (bestS l wd tol) ∧ (bestS l wd tol).br ≠ [] ∧ bestW l wd tol all (placesL l) = some (bestS l wd tol) ∧ (all = true → bestW l wd tol false (placesL l) = none) := by
  obtain ⟨k, hk⟩ := places_two l
  have hp := places_up l
  have he := places_end l hk
  have hm : ((l.length : Nat) : Int) ∈ placesL l := by
    rw [← he, List.getD_eq_getElem?_getD, List.getElem?_eq_getElem (by omega)]; exact List.getElem_mem _
  have key : ∀ all v, bestW l wd tol all (placesL l) = some v → Isw l wd tol all (placesL l) (-1) l.length v ∧ v.br ≠ [] := fun all v h => by
    rw [best_last l wd tol all _ hk, he] at h
    have h9 := found_is (l := l) (wd := wd) (tol := tol) (all := all) (pl := placesL l) (fun i h0 h1 => (hp i h0 h1).1) k (by omega)
    have h8 := fold_is hm (fun i v hv => (h9 i v hv).1) _ v h
    rwa [places_zero] at h8
  unfold bestS
  rw [if_neg (by simp [hb]; omega)]
  cases h : bestW l wd tol false (placesL l) with
  | some v => exact ⟨false, (key false v h).1, (key false v h).2, h, fun h => by cases h⟩
  | none =>
    obtain ⟨v, hv⟩ : ∃ v, bestW l wd tol true (placesL l) = some v := by
      rw [best_last l wd tol true _ hk, he]
      exact fold_some (found_zero l wd tol true _ k) (by rw [places_zero]; exact hb) k
    rw [hv]
    exact ⟨true, (key true v hv).1, (key true v hv).2, hv, fun _ => rfl⟩
theorem best_none {l : List It} (wd tol : Int) (h : 600 < l.length ∨ ¬ firstL l (-1) < l.length) : bestS l wd tol = ⟨[], 0, 0⟩ := by
  unfold bestS; rw [if_pos h]
theorem best_bd (l : List It) (wd tol : Int) : (bestS l wd tol).bd 601 := by
  by_cases h : 600 < l.length ∨ ¬ firstL l (-1) < l.length
  · rw [best_none wd tol h]; exact ⟨by simp, by simp, by simp, by simp, by simp⟩
  · obtain ⟨k, hk⟩ := places_two l
    have hl := (brk_len l).2
    rw [places_len] at hk
    have hk2 : k + 1 ≤ 601 := by omega
    have key : ∀ all v, bestW l wd tol all (placesL l) = some v → v.bd 601 := fun all v hv => by
      rw [best_last l wd tol all _ (k := k) (by rw [places_len]; omega)] at hv
      exact Wy.bd_mono (fold_bd (found_bd l wd tol all _ k) _ v hv) hk2
    obtain ⟨all, -, -, h9, -⟩ := best_is wd tol (l := l) (by omega) (by omega)
    exact key all _ h9
theorem leg_box {l : List It} {wd tol : Int} {all : Bool} : ∀ {br : List Int} {n : Int}, Leg l wd tol all n br → ∀ i, i < br.length → 0 ≤ br.getD i 0 ∧ firstL l (lastI n (br.take i)) < (br.getD i 0).toNat
  | [], _, _, i, h => by simp at h
  | b :: r, n, h, 0, _ => by
    have := h.1
    exact ⟨by simpa using this.1, by simpa [lastI] using this.2.1⟩
  | b :: r, n, h, i + 1, hi => by
    have := leg_box h.2 i (by simpa using hi)
    exact ⟨by simpa using this.1, by simpa [lastI] using this.2⟩
end Go.Proofs.YtempicociampoaaDoor
namespace Go.Proofs.YtempicociampoaaDoor
open Go.RowKit Go.Shelf Go.Lib

/-- vs laid over xs from o on -/
def setG : List Value → Nat → List Value → List Value
  | xs, _, [] => xs
  | xs, o, v :: r => setG (xs.set o v) (o + 1) r
theorem own_setG {e : TypeId} {base size g n cap : Nat} : ∀ (vs xs : List Value) (o : Nat) (w : World), w.ownsRow base e size (.slice (some ⟨g, 0, none⟩) n cap) n xs → (w.setCells g o vs).ownsRow base e size (.slice (some ⟨g, 0, none⟩) n cap) n (setG xs o vs)
  | [], _, _, _, h => h
  | v :: r, xs, o, _w, h => own_setG r (xs.set o v) (o + 1) _ (h.stored o v).1
theorem below_setG {n₀ g : Nat} (hg : n₀ ≤ g) {w : World} : ∀ (vs : List Value) (o : Nat) (W : World), Below n₀ w W → Below n₀ w (W.setCells g o vs)
  | [], _, _, h => h
  | v :: r, o, _W, h => below_setG hg r (o + 1) _ (h.setCell (p := ⟨g, o, none⟩) hg v)
theorem setG_skip (A : List Value) : ∀ (vs X : List Value) (o : Nat), setG (A ++ X) (A.length + o) vs = A ++ setG X o vs
  | [], _, _ => rfl
  | v :: r, X, o => by
    unfold setG
    rw [List.set_append_right _ _ (by omega), show A.length + o - A.length = o by omega, Nat.add_assoc]
    exact setG_skip A r (X.set o v) (o + 1)
theorem setG_here : ∀ (vs mid post : List Value), vs.length = mid.length → setG (mid ++ post) 0 vs = vs ++ post
  | [], mid, post, h => by
    obtain rfl := List.eq_nil_of_length_eq_zero h.symm; rfl
  | v :: r, [], post, h => by cases h
  | v :: r, m :: mid, post, h => by
    unfold setG
    have h9 := setG_skip [v] r (mid ++ post) 0
    simp only [List.cons_append, List.set_cons_zero, List.nil_append, List.length_singleton] at h9 ⊢
    rw [show 0 + 1 = 1 + 0 from rfl, h9, setG_here r mid post (by simpa using h)]
section
variable {α : Type} {enc : α → List Value} {K : Nat}
theorem flat_setG (hK : ∀ x, (enc x).length = K) (e : α) : ∀ {l : List α} {i : Nat}, i < l.length → setG (l.flatMap enc) (i * K) (enc e) = (l.set i e).flatMap enc
  | [], _, h => absurd h (Nat.not_lt_zero _)
  | a :: t, 0, _ => by
    rw [List.flatMap_cons, List.set_cons_zero, List.flatMap_cons, Nat.zero_mul]
    exact setG_here _ _ _ (by rw [hK, hK])
  | a :: t, i + 1, h => by
    rw [List.flatMap_cons, List.set_cons_succ, List.flatMap_cons, show (i + 1) * K = (enc a).length + i * K by rw [hK, Nat.add_mul]; omega, setG_skip]
    rw [flat_setG hK e (by simpa using h)]
/-- row i of an owned slice is set -/
theorem own_row {W : World} {base g n c i : Nat} {e : TypeId} {l : List α} (hK : ∀ x, (enc x).length = K) (h : W.ownsRow base e K (.slice (some ⟨g, 0, none⟩) n c) n (l.flatMap enc)) (hi : i < l.length) (x : α) :
    (W.setCells g (i * K) (enc x)).ownsRow base e K (.slice (some ⟨g, 0, none⟩) n c) n ((l.set i x).flatMap enc) := by
  have := own_setG (enc x) _ (i * K) W h
  rwa [flat_setG hK x hi] at this
end
/-- a found way as it lies: its breaks, total, overfull lines, whether there is one -/
def enc4 (r : Value × Int × Int × Bool) : List Value := [r.1, .int .i64 r.2.1, .int .i64 r.2.2.1, .bool r.2.2.2]
def RowOk (W : World) (g : Nat) (r : Value × Int × Int × Bool) (c : Option Wy) : Prop := match c with
  | none => r = (.slice none 0 0, 0, 0, false)
  | some w => r.2 = (w.tot, w.ov, true) ∧ Sl W 1 encI r.1 w.br ∧ ∀ a n m, r.1 = .slice (some a) n m → g < a.block
theorem RowOk.kept {W W' : World} {g : Nat} {r : Value × Int × Int × Bool} {c : Option Wy} (h : RowOk W g r c) (hb : Below W.heap.size W W') : RowOk W' g r c := by
  cases c with
  | none => exact h
  | some w => exact ⟨h.1, (Kept.of_below hb 0).sl h.2.1, h.2.2⟩
/-- what is found while place k + 1 is tried, the first i places behind it -/
def curF (l : List It) (wd tol : Int) (all : Bool) (pl : List Int) (k i j : Nat) : Option Wy :=
  if j ≤ k then (foundW l wd tol all pl k).getD j none else if j = k + 1 then foldW l wd tol all pl (foundW l wd tol all pl k) (pl.getD (k + 1) 0).toNat i else none
theorem curF_low {l : List It} {wd tol : Int} {all : Bool} {pl : List Int} {k i j : Nat} (h : j ≤ k) : curF l wd tol all pl k i j = (foundW l wd tol all pl k).getD j none := if_pos h
theorem curF_at (l : List It) (wd tol : Int) (all : Bool) (pl : List Int) (k i : Nat) : curF l wd tol all pl k i (k + 1) = foldW l wd tol all pl (foundW l wd tol all pl k) (pl.getD (k + 1) 0).toNat i := by
  unfold curF; rw [if_neg (by omega), if_pos rfl]
theorem curF_off {l : List It} {wd tol : Int} {all : Bool} {pl : List Int} {k i i' j : Nat} (h : j ≠ k + 1) : curF l wd tol all pl k i j = curF l wd tol all pl k i' j := by
  unfold curF
  split
  · rfl
  · simp only
theorem curF_next (l : List It) (wd tol : Int) (all : Bool) (pl : List Int) (k j : Nat) : curF l wd tol all pl (k + 1) 0 j = curF l wd tol all pl k (k + 1) j := by
  have hl := found_len l wd tol all pl k
  unfold curF
  by_cases h : j ≤ k
  · rw [if_pos (by omega), if_pos h, foundW, List.getD_eq_getElem?_getD, List.getElem?_append_left (by omega), ← List.getD_eq_getElem?_getD]
  · by_cases h2 : j = k + 1
    · subst h2
      rw [if_pos (Nat.le_refl _), if_neg (by omega), if_pos rfl, foundW, List.getD_eq_getElem?_getD, List.getElem?_append_right (by omega), hl, Nat.sub_self]; rfl
    · rw [if_neg (by omega), if_neg h, if_neg h2]
      split <;> rfl
theorem curF_step (l : List It) (wd tol : Int) (all : Bool) (pl : List Int) (k i : Nat) (hi : i ≤ k) :
    curF l wd tol all pl k (i + 1) (k + 1) = tryW l wd tol all (pl.getD i 0) (pl.getD (k + 1) 0).toNat (curF l wd tol all pl k i i) (curF l wd tol all pl k i (k + 1)) := by
  rw [curF_at, curF_at, foldW, curF_low hi]
theorem curF_zero (l : List It) (wd tol : Int) (all : Bool) (pl : List Int) (j : Nat) : curF l wd tol all pl 0 0 j = if j = 0 then some ⟨[], 0, 0⟩ else none := by
  unfold curF
  by_cases h : j = 0
  · subst h; rfl
  · rw [if_neg (by omega), if_neg h]
    split <;> rfl
theorem curF_bd {l : List It} {wd tol : Int} {all : Bool} {pl : List Int} {k i j : Nat} {v : Wy} (h : curF l wd tol all pl k i j = some v) : v.bd (k + 1) := by
  unfold curF at h
  split at h
  · exact Wy.bd_mono (found_bd l wd tol all pl k j v (fs_get h)) (by omega)
  · split at h
    · exact fold_bd (found_bd l wd tol all pl k) i v h
    · cases h
end Go.Proofs.YtempicociampoaaDoor
namespace Go.Proofs.YtempicociampoaaDoor
open Go.RowKit Go.Shelf Go.Lib

section
variable {P : Program}
theorem wp_append_slG {α : Type} {w : World} {o : Oper} {a : Act} {K : Act → World → Prop} {Q : Exit → Act → World → Prop}
    (s x : Operand) (t : TypeId) (hop : o.op = Op.call { callee := Callee.builtin Builtin.append, args := #[s, x], argTypes := #[t, t] })
    (base : Nat) (e : TypeId) (i : TypeInfo) (z : Value) (size bytes : Nat) (h1 : P.underlying t = some (.slice e)) (h2 : P.info? e = some i) (h3 : i.zero = some z) (h4 : i.size = size) (h5 : i.bytes = bytes) (h6 : z.cells.size = size) (h7 : 0 < size)
    (v : Value) (k : Nat) (xs : List Value) (hs : a.eval s = v) (hown : w.ownsRow base e size v k xs)
    (enc : α → List Value) (vx : Value) (l : List α) (hx : a.eval x = vx) (hsl : Sl w size enc vx l) (he : ∀ x ∈ l, (enc x).length = size ∧ ∀ u ∈ enc x, u.oneCell' = true)
    (b1 : k + l.length ≤ maxLen) (b2 : (k + l.length) * bytes ≤ 140737488355328) (b3 : base ≤ w.heap.size)
    (hK : ∀ v' w', w'.ownsRow base e size v' (k + l.length) (xs ++ l.flatMap enc) → w.grownBy w' v.ownBlock → (v' = .slice none 0 0 ↔ v = .slice none 0 0 ∧ l = []) → K (a.put o.dst v') w') :
    o.wp P a w K Q := by
  obtain ⟨v', w', hrun, r1, r2, r3⟩ := run_append_sl (P := P) w base t o.type e i z size bytes h1 h2 h3 h4 h5 h6 h7 v k xs hown enc vx l hsl he b1 b2 b3
  unfold Oper.wp
  simp [execOp, hop, resolve, invoke, builtin, hs, hx, hrun, Result.andThen]
  exact hK v' w' r1 r2 r3
end
theorem own_mono {w : World} {base base' : Nat} {e : TypeId} {size : Nat} {v : Value} {n : Nat} {xs : List Value} (h : w.ownsRow base e size v n xs) (hb : base' ≤ base) : w.ownsRow base' e size v n xs := by
  obtain ⟨h1, h2⟩ := h
  refine ⟨h1, h2.imp id ?_⟩
  rintro ⟨g, cap, cur, hv, hg, r⟩
  exact ⟨g, cap, cur, hv, by omega, r⟩
theorem own_lt2 {W : World} {base : Nat} {e : TypeId} {size : Nat} {v : Value} {n : Nat} {xs : List Value} (h : W.ownsRow base e size v n xs) {j : Nat} (hj : v.ownBlock = some j) : j < W.heap.size := by
  rcases h.2 with ⟨rfl, _⟩ | ⟨g, cap, cur, rfl, hg, hh, _⟩
  · simp [Value.ownBlock] at hj
  · simp [Value.ownBlock] at hj; subst hj; exact (Array.getElem?_eq_some_iff.1 hh).1
theorem own_base2 {W : World} {base : Nat} {e : TypeId} {size : Nat} {v : Value} {n : Nat} {xs : List Value} (h : W.ownsRow base e size v n xs) {j : Nat} (hj : v.ownBlock = some j) : base ≤ j := by
  rcases h.2 with ⟨rfl, _⟩ | ⟨g, cap, cur, rfl, hg, _⟩
  · simp [Value.ownBlock] at hj
  · simp [Value.ownBlock] at hj; omega
theorem own_ty2 {W : World} {base : Nat} {e : TypeId} {size : Nat} {v : Value} {n : Nat} {xs : List Value} (h : W.ownsRow base e size v n xs) {b : Nat} {cs : Array Value} {t : TypeId} {fr : Nat × Nat} (hb : W.heap[b]? = some (.cells cs t fr)) (ht : t ≠ e) : v.ownBlock ≠ some b := fun hj => by
  rcases h.2 with ⟨rfl, _⟩ | ⟨g, cap, cur, rfl, hg, hh, _⟩
  · simp [Value.ownBlock] at hj
  · simp [Value.ownBlock] at hj; subst hj; rw [hb] at hh; cases hh; exact ht rfl
/-- a write to another block leaves an owned row -/
theorem upd_own2 {W W' : World} {b : Nat} {cs' : Array Value} {t e : TypeId} {base size n : Nat} {v : Value} {xs : List Value} (u : Upd b cs' t W W') (hb : v.ownBlock ≠ some b) (h : W.ownsRow base e size v n xs) : W'.ownsRow base e size v n xs := by
  obtain ⟨h0, h1⟩ := h
  refine ⟨h0, ?_⟩
  rcases h1 with h1 | ⟨g, cap, cur, rfl, hg, hh, r⟩
  · exact .inl h1
  · exact .inr ⟨g, cap, cur, rfl, hg, (u.off g fun e9 => hb (by simp [Value.ownBlock, e9])).trans hh, r⟩
theorem sl_i1 {W : World} {b : Nat} {t : Int} {ty : TypeId} {fr : Nat × Nat} (h : W.heap[b]? = some (.cells #[.int .i64 t] ty fr)) : Sl W 1 encI (.slice (some ⟨b, 0, none⟩) 1 1) [t] := by
  refine Sl.mk (l := [t]) (cap := 1) (by simp) (by decide) fun i x hx => ?_
  match i, hx with
  | 0, hx => obtain rfl := Option.some.inj hx; exact fun j v hj => by match j, hj with | 0, hj => obtain rfl := Option.some.inj hj; exact cell_blk h rfl
theorem results_rt2 {P : Program} {fn : Func} {p q : Tmp} {t1 : TypeId} (h : fn.results = #[.cell p t1, .tmp q]) (tmps : Array Value) (w : World) (g1 : Nat) (t : TypeId) (cs : Array Value) (v2 : Value) (d1 : TypeDesc)
    (e1 : tmps.getD p undef = .pointer (some ⟨g1, 0, none⟩)) (e2 : tmps.getD q undef = v2) (h1 : w.heap[g1]? = some (.cells cs t (0, 0)))
    (hu1 : P.underlying t1 = some d1) (hd1 : TypeDesc.isRow d1 = true) (hi : (P.info? t1).map (·.size) = some cs.size) :
    (results fn tmps).run P w = .ok (.tuple #[.agg cs, v2]) w := by
  have e1' : tmps[p]?.getD undef = .pointer (some ⟨g1, 0, none⟩) := by simpa using e1
  have e2' : tmps[q]?.getD undef = v2 := by simpa using e2
  have hl := run_loadVar_row (P := P) w g1 t t1 cs (0, 0) d1 h1 hu1 (by cases d1 <;> first | rfl | cases hd1) hi
  simp [results, h, e1', e2', asAddr, hl]
/-- a row and a value are answered -/
theorem outRowT2 {P : Program} {fn : Func} {ty t : TypeId} {p q : Tmp} {n₀ : Nat} {W : World} {a : Act} {R : Ending → World → Prop} {cs : Array Value} {v2 : Value} (hf : fn.results = #[.cell p ty, .tmp q])
    (h2 : W.heap[n₀]? = some (.cells cs t (0, 0))) (e1 : a.tmps.getD p undef = .pointer (some ⟨n₀, 0, none⟩)) (e2 : a.tmps.getD q undef = v2) (hd : a.defers = [])
    (hk : (P.underlying ty).map TypeDesc.isRow = some true) (hi : (P.info? ty).map (·.size) = some cs.size) (hR : R (.returned (.tuple #[.agg cs, v2])) W) : bodyPost P fn R .ret a W := by
  obtain ⟨d, hu, hr⟩ := Option.map_eq_some_iff.1 hk
  exact bodyPost_ret (results_rt2 hf _ _ n₀ t cs v2 d e1 e2 h2 hu hr hi) hd hR
end Go.Proofs.YtempicociampoaaDoor
namespace Go.Proofs.YtempicociampoaaDoor
open Go.RowKit Go.Shelf

/-- what is neither a builder nor bytes stands -/
def OthT (w w' : World) : Prop := ∀ (k : Nat) (cs : Array Value) (t : TypeId) (fr : Nat × Nat), w.heap[k]? = some (.cells cs t fr) → t ≠ 60 → t ≠ 5 → w'.heap[k]? = some (.cells cs t fr)
theorem isb_below {B b : Nat} {bs : List Value} {W W' : World} (h : Lib.IsBuilderF 60 5 B b bs W) (hb : Below W.heap.size W W') : Lib.IsBuilderF 60 5 B b bs W' := by
  have at' : ∀ {p : Value}, Lib.BuilderAtF 60 5 B b p bs W → Lib.BuilderAtF 60 5 B b p bs W' := fun h => by
    have hlt := h.lt
    obtain ⟨hB, v, hv, hown, hne⟩ := h
    exact ⟨hB, v, (hb.block b hlt).trans hv, hown.kept (row := none) ⟨hb.os, hb.tape, hb.output, hb.size, fun k hk _ => hb.block k hk⟩ (Classical.em _), hne⟩
  exact h.elim (fun x => .inl (at' x)) (fun x => .inr (at' x))
theorem copyCheck_keep (B b : Nat) (bs : List Value) (w : World) (h : Lib.IsBuilderF 60 5 B b bs w) :
    Calls Tryd.prog 37 #[.pointer (some ⟨b, 0, none⟩)] w fun e w' => e = .returned (.tuple #[]) ∧ (Lib.BuilderAtF 60 5 B b (.pointer (some ⟨b, 0, none⟩)) bs w' ∧ Below B w w') ∧ OthT w w' := by
  rcases h with h | h
  · refine (copyCheck_fresh b w h.cell0 h.shape h.frozen0).mono ?_
    rintro e w' ⟨rfl, rfl⟩
    refine ⟨rfl, ⟨h.used _, (Below.refl B w).setCell (p := ⟨b, 0, none⟩) h.1 _⟩, fun k cs t fr hk h1 _ => ?_⟩
    obtain ⟨_, v, hv, _⟩ := h
    exact (setCell_off (by rintro rfl; rw [hv] at hk; cases hk; exact h1 rfl)).trans hk
  · refine (copyCheck_used b w h.cell0).mono ?_
    rintro e w' ⟨rfl, rfl⟩
    exact ⟨rfl, ⟨h, Below.refl B _⟩, fun _ _ _ _ hk _ _ => hk⟩

set_option maxRecDepth 100000 in
set_option maxHeartbeats 2000000 in
theorem WriteByte_keep (B b : Nat) (bs : List Value) (c : Int) (w : World) (h : Lib.IsBuilderF 60 5 B b bs w) (hlen : bs.length + 1 ≤ 140737488355328) (hBw : B ≤ w.heap.size) :
    Calls Tryd.prog 23 #[.pointer (some ⟨b, 0, none⟩), .int .u8 c] w fun e w' => e = .returned .nilIface ∧ (Lib.BuilderAtF 60 5 B b (.pointer (some ⟨b, 0, none⟩)) (bs ++ [.int .u8 c]) w' ∧ Below B w w') ∧ OthT w w' := by
  obtain ⟨i0, hi, hz0, hz1, hz2⟩ := info_parts Tryd.Builder_Extra_169.infoByte
  have hcc := copyCheck_keep B b bs w h
  go_enter Tryd.func23, Tryd.ntmps23
  go_wp2_with (fail)
  refine hcc.mono ?_
  rintro e w1 ⟨rfl, ⟨h1, hb1⟩, ho1⟩
  obtain ⟨hB, v, hbk, hown, hne⟩ := h1
  have c0 : w1.cell? ⟨b, 0, none⟩ = some (.pointer (some ⟨b, 0, none⟩)) := by rw [Lib.cell_of_heap hbk]; rfl
  have c1 : w1.cell? ⟨b, 1, none⟩ = some v := by rw [Lib.cell_of_heap hbk]; rfl
  go_wp2_with (at_builtin; refine wpList_append_ownF _ rfl _ _ 58 rfl B 5 i0 (.int .u8 0) 1 1 Tryd.underlying58 hi hz0 hz1 hz2 rfl (by decide) _ _ _ rfl (hown.alloc _) ⟨w1.heap.size, 0, none⟩ 1 1 [.int .u8 c] rfl rfl ?c1 ?c2 ?c3 ?c4 ?c5 ?_)
  case c1 =>
    intro j u hj
    match j, hj with
    | 0, hj => simp at hj; subst hj; simp [Addr.add]
  case c2 => intro u hu; simp at hu; subst hu; rfl
  case c3 => unfold maxLen; omega
  case c4 => omega
  case c5 => have := hb1.size; simp; omega
  intro v' w2 hown' hgrow _
  have hlt : b < w1.heap.size := by
    rcases Nat.lt_or_ge b w1.heap.size with h' | h'
    · exact h'
    · simp [Array.getElem?_eq_none h'] at hbk
  have hb2 : w2.heap[b]? = some (.cells #[.pointer (some ⟨b, 0, none⟩), v] 60 (0, 0)) := by
    rw [hgrow.block b (by simp; omega) (fun e => hne e.symm), Lib.alloc_old w1 _ b hlt]
    exact hbk
  have d0 : w2.cell? ⟨b, 0, none⟩ = some (.pointer (some ⟨b, 0, none⟩)) := by rw [Lib.cell_of_heap hb2]; rfl
  have d1 : w2.cell? ⟨b, 1, none⟩ = some v := by rw [Lib.cell_of_heap hb2]; rfl
  have f1 : w2.frozen? ⟨b, 1, none⟩ = false := Lib.frozen_of_heap hb2 1
  obtain ⟨ao, n', cap, rfl⟩ : ∃ ao n' cap, v' = .slice ao n' cap := by
    rcases hown'.2 with ⟨hv, _⟩ | ⟨g, cap, cur, fz, hv, _⟩
    · exact ⟨_, _, _, hv⟩
    · exact ⟨_, _, _, hv⟩
  go_wp2
  go_ret
  refine ⟨rfl, ⟨?_, ?_⟩, ?_⟩
  · exact Lib.BuilderAtF.put (T := 60) (e := 5) hB hb2 (bs' := bs ++ [.int .u8 c]) (by simpa using hown') Tryd.Builder_Extra_169.neB5
  · exact ((hb1.alloc (by have := hb1.size; omega) _).grown hgrow (by have := hb1.size; simp; omega) (fun k hk => (hown.lt k hk).1)).setCell (p := ⟨b, 1, none⟩) hB _
  · intro k cs t fr hk h1 h2
    have k1 := ho1 k cs t fr hk h1 h2
    have kb : k ≠ b := by rintro rfl; rw [hbk] at k1; cases k1; exact h1 rfl
    have kl : k < w1.heap.size := (Array.getElem?_eq_some_iff.1 k1).1
    refine (setCell_off kb).trans ((hgrow.block k (by simp; omega) (fun e => ?_)).trans ((Lib.alloc_old w1 _ k kl).trans k1))
    rcases hown.2 with ⟨hv, _⟩ | ⟨g, cap, cur, fz, hv, hg, hh, _⟩
    · rw [hv] at e; simp [Value.ownBlock] at e
    · subst hv
      simp [Value.ownBlock] at e
      subst e
      rw [k1] at hh; cases hh; exact h2 rfl
end Go.Proofs.YtempicociampoaaDoor
