/- The walk of codexlaw11.Fair. The walk of the reference's Bytes (by gen_utfd.py). Plain laws of lines: the best breaks of items, the lines that they come to. Long rows, whole: stored, read, answered. Arguments that came in, of a bound bulk: slices of strings, structs of five fields, arrays of bytes. -/
import Derived.Test.YtempicociampoaaGreatDoorJ5
import Derived.Test.YtempicociampoaaGreatDoorJ0
import Derived.Test.YtempicociampoaaGreatDoorJ3
import Derived.Test.YtempicociampoaaGreatDoorJ4
import Derived.Deep.MidRow
import Derived.Test.YtempicociampoaaGreatDoorRows
import Derived.Lib.SmallJoins
import Derived.OpenShut
namespace Go.Proofs.YtempicociampoaaGreatDoor
open Go.RowKit Go.Shelf

/-- a part as it lies in memory: its kind, its words' slice, the words -/
abbrev Pt := Int × Value × List ByteArray
def encPt (x : Pt) : List Value := [.int .i64 x.1, x.2.1]
def bytesOf (ws : List ByteArray) : Nat := (ws.map (·.size)).sum
def bytesAll (L : List Pt) : Nat := (L.map fun x => bytesOf x.2.2).sum
/-- what Fair has found where it says yes -/
def FairP (L : List Pt) : Prop := bytesAll L ≤ 1000 ∧ L.length ≤ 200 ∧ ∀ x ∈ L, x.2.2.length ≤ 300

def FairOut (L : List Pt) (e : Ending) : Prop := ∃ b, e = .returned (.bool b) ∧ (b = true → FairP L)
theorem FairOut.no {L : List Pt} {e : Ending} (h : e = .returned (.bool false)) : FairOut L e := ⟨false, h, fun h => by cases h⟩
theorem FairOut.yes {L : List Pt} {e : Ending} (h : e = .returned (.bool true)) (hp : FairP L) : FairOut L e := ⟨true, h, fun _ => hp⟩

end Go.Proofs.YtempicociampoaaGreatDoor
namespace Go.Proofs.YtempicociampoaaGreatDoor
open Go.RowKit Go.Lib

def encB (n : Int) : List Value := [.int .u8 n]

theorem and63 (v : Int) (h0 : 0 ≤ v) (h1 : v < 2 ^ 62) : bits BinOp.and IntKind.i64 v 63 = v % 64 := by
 have h := bits_mask .i64 62 (by decide) (fun n h0 h1 => by rw [IntKind.wrap_i64]; omega) 6 (by decide) v h0 h1
 have e : ((2 : Int) ^ 6 - 1) = 63 := by decide
 have e2 : ((2 : Int) ^ 6) = 64 := by decide
 rw [e, e2] at h
 exact h

/-- the reference's bytes of a code point; none: it is none -/
def rbytes (v : Int) : List Int := if okv v then encodeRuneZ v else []

set_option maxRecDepth 100000 in
set_option maxHeartbeats 400000 in
theorem Bytes_no (v : Int) (w : World) (z1 : -9223372036854775808 ≤ v) (z2 : v ≤ 9223372036854775807) (h : ¬ okv v) :
  Calls Tryz.prog 90 #[.int .i64 v] w fun e w' => e = .returned (.slice none 0 0) ∧ w = w' := by
 have hc : v < 0 ∨ (¬ v < 0 ∧ 1114111 < v) ∨ (¬ v < 0 ∧ ¬ 1114111 < v ∧ 55296 ≤ v ∧ v ≤ 57343) := by unfold okv at h; omega
 clear h
 rcases hc with a | ⟨a, b⟩ | ⟨a, b, c, d⟩
 all_goals
  go_enter Tryz.func90, Tryz.ntmps90
  go_wp2
  go_ret
  exact ⟨rfl, rfl⟩

set_option maxRecDepth 100000 in
set_option maxHeartbeats 400000 in
theorem Bytes_1 (v : Int) (w : World) (h1 : 0 ≤ v) (h2 : v ≤ 127) :
  Calls Tryz.prog 90 #[.int .i64 v] w fun e w' => e = .returned (.slice (some ⟨w.heap.size, 0, none⟩) 1 1) ∧ w' = w.alloc (.cells ([v].flatMap encB).toArray 5) := by
 have q1 := and63 (v) (by omega) (by omega)
 have q2 := and63 (v / 64) (by omega) (by omega)
 have q3 := and63 (v / 4096) (by omega) (by omega)
 go_enter Tryz.func90, Tryz.ntmps90
 go_wp2
 all_goals go_ret
 all_goals exact ⟨rfl, rfl⟩

set_option maxRecDepth 100000 in
set_option maxHeartbeats 400000 in
theorem Bytes_2 (v : Int) (w : World) (h1 : 128 ≤ v) (h2 : v ≤ 2047) :
  Calls Tryz.prog 90 #[.int .i64 v] w fun e w' => e = .returned (.slice (some ⟨w.heap.size, 0, none⟩) 2 2) ∧ w' = w.alloc (.cells ([192 + v / 64, 128 + v % 64].flatMap encB).toArray 5) := by
 have q1 := and63 (v) (by omega) (by omega)
 have q2 := and63 (v / 64) (by omega) (by omega)
 have q3 := and63 (v / 4096) (by omega) (by omega)
 go_enter Tryz.func90, Tryz.ntmps90
 go_wp2
 all_goals go_ret
 all_goals exact ⟨rfl, rfl⟩

set_option maxRecDepth 100000 in
set_option maxHeartbeats 400000 in
theorem Bytes_3a (v : Int) (w : World) (h1 : 2048 ≤ v) (h2 : v < 55296) :
  Calls Tryz.prog 90 #[.int .i64 v] w fun e w' => e = .returned (.slice (some ⟨w.heap.size, 0, none⟩) 3 3) ∧ w' = w.alloc (.cells ([224 + v / 4096, 128 + v / 64 % 64, 128 + v % 64].flatMap encB).toArray 5) := by
 have q1 := and63 (v) (by omega) (by omega)
 have q2 := and63 (v / 64) (by omega) (by omega)
 have q3 := and63 (v / 4096) (by omega) (by omega)
 go_enter Tryz.func90, Tryz.ntmps90
 go_wp2
 all_goals go_ret
 all_goals exact ⟨rfl, rfl⟩

set_option maxRecDepth 100000 in
set_option maxHeartbeats 400000 in
theorem Bytes_3b (v : Int) (w : World) (h1 : 57343 < v) (h2 : v ≤ 65535) :
  Calls Tryz.prog 90 #[.int .i64 v] w fun e w' => e = .returned (.slice (some ⟨w.heap.size, 0, none⟩) 3 3) ∧ w' = w.alloc (.cells ([224 + v / 4096, 128 + v / 64 % 64, 128 + v % 64].flatMap encB).toArray 5) := by
 have q1 := and63 (v) (by omega) (by omega)
 have q2 := and63 (v / 64) (by omega) (by omega)
 have q3 := and63 (v / 4096) (by omega) (by omega)
 go_enter Tryz.func90, Tryz.ntmps90
 go_wp2
 all_goals go_ret
 all_goals exact ⟨rfl, rfl⟩

set_option maxRecDepth 100000 in
set_option maxHeartbeats 400000 in
theorem Bytes_4 (v : Int) (w : World) (h1 : 65536 ≤ v) (h2 : v ≤ 1114111) :
  Calls Tryz.prog 90 #[.int .i64 v] w fun e w' => e = .returned (.slice (some ⟨w.heap.size, 0, none⟩) 4 4) ∧ w' = w.alloc (.cells ([240 + v / 262144, 128 + v / 4096 % 64, 128 + v / 64 % 64, 128 + v % 64].flatMap encB).toArray 5) := by
 have q1 := and63 (v) (by omega) (by omega)
 have q2 := and63 (v / 64) (by omega) (by omega)
 have q3 := and63 (v / 4096) (by omega) (by omega)
 go_enter Tryz.func90, Tryz.ntmps90
 go_wp2
 all_goals go_ret
 all_goals exact ⟨rfl, rfl⟩

theorem Bytes_yes (v : Int) (w : World) (h : okv v) :
  Calls Tryz.prog 90 #[.int .i64 v] w fun e w' => ∃ x, e = .returned x ∧ Sl w' 1 encB x (encodeRuneZ v) ∧ Below w.heap.size w w' := by
 have key : ∀ (l : List Int) (n : Nat), encodeRuneZ v = l → n = l.length → n ≤ 4 → (Calls Tryz.prog 90 #[.int .i64 v] w fun e w' => e = .returned (.slice (some ⟨w.heap.size, 0, none⟩) n n) ∧ w' = w.alloc (.cells (l.flatMap encB).toArray 5)) →
   Calls Tryz.prog 90 #[.int .i64 v] w fun e w' => ∃ x, e = .returned x ∧ Sl w' 1 encB x (encodeRuneZ v) ∧ Below w.heap.size w w' := by
  intro l n hl hn h4 hc
  refine hc.mono fun e w' ⟨he, hw⟩ => ⟨_, he, ?_, ?_⟩
  ·rw [hl, hw, hn]
   refine sl_of_block (World.alloc_heap_new w _) ?_ (fun _ _ => rfl) (Nat.le_refl _) (by unfold maxLen; omega)
   have : ∀ l : List Int, (l.flatMap encB).length = l.length * 1 := by
    intro l
    induction l with
    | nil => rfl
    | cons a l ih => rw [List.flatMap_cons, List.length_append, ih]; simp [encB]; omega
   simp only [← this l, List.take_length]
  ·rw [hw]; exact (Below.refl _ w).alloc (Nat.le_refl _) _
 have h' := h
 obtain ⟨a1, a2, a3⟩ := h'
 rcases encZ_cases h with ⟨c, e⟩ | ⟨c1, c2, e⟩ | ⟨c1, c2, e⟩ | ⟨c, e⟩
 ·exact key _ 1 e rfl (by decide) (Bytes_1 v w a1 c)
 ·exact key _ 2 e rfl (by decide) (Bytes_2 v w c1 c2)
 ·by_cases d : v < 55296
  ·exact key _ 3 e rfl (by decide) (Bytes_3a v w c1 d)
  ·exact key _ 3 e rfl (by decide) (Bytes_3b v w (by omega) c2)
 ·exact key _ 4 e rfl (by decide) (Bytes_4 v w c a2)
end Go.Proofs.YtempicociampoaaGreatDoor
namespace Go.Proofs.YtempicociampoaaGreatDoor
open Go.RowKit

/-- where lines begin and end -/
def placesL (l : List It) : List Int := -1 :: brk l
/-- the best way of items -/
def bestS (l : List It) (wd tol : Int) : Wy :=
 if 600 < l.length ∨ ¬ firstL l (-1) < l.length then ⟨[], 0, 0⟩
 else match bestW l wd tol false (placesL l) with
  | some v => v
  | none => (bestW l wd tol true (placesL l)).getD ⟨[], 0, 0⟩
structure Ln where
 kind : Int
 first : Bool
 last : Bool
 over : Bool
 ps : List (Int × ByteArray)
/-- the lines of breaks, from a place on -/
def linesL (l : List It) (width wd tol kind : Int) : Int → Bool → List Int → List Ln
 | _, _, [] => []
 | n, f, b :: r => ⟨kind, f, r.isEmpty, (liS l wd tol n b.toNat).over, setL l n b width r.isEmpty⟩ :: linesL l width wd tol kind b false r
theorem linesL_len (l : List It) (width wd tol kind : Int) : ∀ (br : List Int) (n : Int) (f : Bool), (linesL l width wd tol kind n f br).length = br.length
 | [], _, _ => rfl
 | b :: r, _, _ => by rw [linesL, List.length_cons, linesL_len l width wd tol kind r b false, List.length_cons]
/-- one of them, by its place -/
def lineAt (l : List It) (width wd tol kind : Int) (br : List Int) (i : Nat) : Ln :=
 ⟨kind, decide (i = 0), decide (i + 1 = br.length), (liS l wd tol (lastI (-1) (br.take i)) (br.getD i 0).toNat).over, setL l (lastI (-1) (br.take i)) (br.getD i 0) width (decide (i + 1 = br.length))⟩
theorem linesL_at (l : List It) (width wd tol kind : Int) : ∀ (br : List Int) (n : Int) (f : Bool) (i : Nat), i < br.length →
  (linesL l width wd tol kind n f br)[i]? = some ⟨kind, f && decide (i = 0), decide (i + 1 = br.length), (liS l wd tol (lastI n (br.take i)) (br.getD i 0).toNat).over, setL l (lastI n (br.take i)) (br.getD i 0) width (decide (i + 1 = br.length))⟩
 | [], _, _, i, h => by simp at h
 | b :: r, n, f, 0, _ => by
  have e : r.isEmpty = decide (0 + 1 = (b :: r).length) := by cases r <;> simp
  rw [linesL, e]
  simp [lastI]
 | b :: r, n, f, i + 1, h => by
  have h' : i < r.length := by simpa using h
  rw [linesL, List.getElem?_cons_succ, linesL_at l width wd tol kind r b false i h']
  have e : decide (i + 1 = r.length) = decide (i + 1 + 1 = (b :: r).length) := by simp
  rw [e]
  simp [lastI]
theorem linesL_eq (l : List It) (width wd tol kind : Int) (br : List Int) : linesL l width wd tol kind (-1) true br = (List.range br.length).map (lineAt l width wd tol kind br) := by
 refine List.ext_getElem? fun i => ?_
 by_cases h : i < br.length
 ·rw [linesL_at l width wd tol kind br (-1) true i h, List.getElem?_map, List.getElem?_range h]
  simp [lineAt]
 ·rw [List.getElem?_eq_none (by rw [linesL_len]; omega), List.getElem?_eq_none (by simp; omega)]
theorem places_len (l : List It) : (placesL l).length = (brk l).length + 1 := rfl
theorem places_two (l : List It) : ∃ k, (placesL l).length = k + 2 := ⟨(brk l).length - 1, by have := brk_len l; rw [places_len]; omega⟩
theorem places_zero (l : List It) : (placesL l).getD 0 0 = -1 := rfl
theorem places_up (l : List It) : ∀ i, 0 < i → i < (placesL l).length → 0 ≤ (placesL l).getD i 0 ∧ (placesL l).getD i 0 ≤ l.length := fun i h0 h => by
 obtain ⟨j, rfl⟩ : ∃ j, i = j + 1 := ⟨i - 1, by omega⟩
 have hj : j < (brk l).length := by rw [places_len] at h; omega
 have e : (placesL l).getD (j + 1) 0 = (brk l)[j] := by
  unfold placesL
  rw [List.getD_cons_succ, List.getD_eq_getElem?_getD, List.getElem?_eq_getElem hj]; rfl
 obtain ⟨k, h1, h2, -⟩ := brk_mem (List.getElem_mem hj)
 rw [e, h1]
 omega
theorem places_end (l : List It) {k : Nat} (hk : (placesL l).length = k + 2) : (placesL l).getD (k + 1) 0 = (l.length : Int) := by
 have h1 : (brk l).length = k + 1 := by rw [places_len] at hk; omega
 unfold placesL
 rw [List.getD_cons_succ, List.getD_eq_getElem?_getD]
 unfold brk at h1 ⊢
 have h2 : (brks l l.length).length = k := by simp at h1; exact h1
 rw [List.getElem?_append_right (by omega), h2]
 simp
/-- the best way is one: legal lines, from the beginning to the end -/
theorem best_is {l : List It} (wd tol : Int) (h6 : l.length ≤ 600) (hb : firstL l (-1) < l.length) : ∃ all, Isw l wd tol all (placesL l) (-1) l.length (bestS l wd tol) ∧ (bestS l wd tol).br ≠ [] ∧ bestW l wd tol all (placesL l) = some (bestS l wd tol) ∧ (all = true → bestW l wd tol false (placesL l) = none) := by
 obtain ⟨k, hk⟩ := places_two l
 have hp := places_up l
 have he := places_end l hk
 have hm : ((l.length : Nat) : Int) ∈ placesL l := by
  rw [← he, List.getD_eq_getElem?_getD, List.getElem?_eq_getElem (by omega)]; exact List.getElem_mem _
 have key : ∀ all v, bestW l wd tol all (placesL l) = some v → Isw l wd tol all (placesL l) (-1) l.length v ∧ v.br ≠ [] := fun all v h => by
  rw [best_last l wd tol all _ hk, he] at h
  have h9 := found_is (l := l) (wd := wd) (tol := tol) (all := all) (pl := placesL l) (fun i h0 h1 => (hp i h0 h1).1) k (by omega)
  have h8 := fold_is hm (fun i v hv => (h9 i v hv).1) _ v h
  rwa [places_zero] at h8
 unfold bestS
 rw [if_neg (by simp [hb]; omega)]
 cases h : bestW l wd tol false (placesL l) with
 | some v => exact ⟨false, (key false v h).1, (key false v h).2, h, fun h => by cases h⟩
 | none =>
  obtain ⟨v, hv⟩ : ∃ v, bestW l wd tol true (placesL l) = some v := by
   rw [best_last l wd tol true _ hk, he]
   exact fold_some (found_zero l wd tol true _ k) (by rw [places_zero]; exact hb) k
  rw [hv]
  exact ⟨true, (key true v hv).1, (key true v hv).2, hv, fun _ => rfl⟩
theorem best_none {l : List It} (wd tol : Int) (h : 600 < l.length ∨ ¬ firstL l (-1) < l.length) : bestS l wd tol = ⟨[], 0, 0⟩ := by
 unfold bestS; rw [if_pos h]
theorem best_bd (l : List It) (wd tol : Int) : (bestS l wd tol).bd 601 := by
 by_cases h : 600 < l.length ∨ ¬ firstL l (-1) < l.length
 ·rw [best_none wd tol h]; exact ⟨by simp, by simp, by simp, by simp, by simp⟩
 ·obtain ⟨k, hk⟩ := places_two l
  have hl := (brk_len l).2
  rw [places_len] at hk
  have hk2 : k + 1 ≤ 601 := by omega
  have key : ∀ all v, bestW l wd tol all (placesL l) = some v → v.bd 601 := fun all v hv => by
   rw [best_last l wd tol all _ (k := k) (by rw [places_len]; omega)] at hv
   exact Wy.bd_mono (fold_bd (found_bd l wd tol all _ k) _ v hv) hk2
  obtain ⟨all, -, -, h9, -⟩ := best_is wd tol (l := l) (by omega) (by omega)
  exact key all _ h9
theorem leg_box {l : List It} {wd tol : Int} {all : Bool} : ∀ {br : List Int} {n : Int}, Leg l wd tol all n br → ∀ i, i < br.length → 0 ≤ br.getD i 0 ∧ firstL l (lastI n (br.take i)) < (br.getD i 0).toNat
 | [], _, _, i, h => by simp at h
 | b :: r, n, h, 0, _ => by
  have := h.1
  exact ⟨by simpa using this.1, by simpa [lastI] using this.2.1⟩
 | b :: r, n, h, i + 1, hi => by
  have := leg_box h.2 i (by simpa using hi)
  exact ⟨by simpa using this.1, by simpa [lastI] using this.2⟩
end Go.Proofs.YtempicociampoaaGreatDoor
namespace Go.Proofs.YtempicociampoaaGreatDoor
open Go.RowKit

theorem setCells_row {b : Nat} {t : TypeId} {fr : Nat × Nat} : ∀ (vs pre rest : List Value) (w : World), w.heap[b]? = some (.cells (pre ++ rest).toArray t fr) → vs.length = rest.length →
  (w.setCells b pre.length vs).heap[b]? = some (.cells (pre ++ vs).toArray t fr)
 | [], pre, rest, w, h, hl => by
  have : rest = [] := List.length_eq_zero_iff.1 hl.symm
  subst this; exact h
 | v :: vs, pre, rest, w, h, hl => by
  obtain ⟨r, rest', rfl⟩ : ∃ r rest', rest = r :: rest' := by
   cases rest with
   | nil => simp at hl
   | cons a l => exact ⟨a, l, rfl⟩
  rw [World.setCells]
  have h1 := setCell_blk (i := pre.length) (x := v) h
  have e : ((pre ++ r :: rest').toArray.setIfInBounds pre.length v) = ((pre ++ [v]) ++ rest').toArray := by
   rw [List.setIfInBounds_toArray, List.set_append_right _ _ (Nat.le_refl _), Nat.sub_self, List.set_cons_zero, List.append_assoc]; rfl
  rw [e] at h1
  have h2 := setCells_row vs (pre ++ [v]) rest' _ h1 (by simpa using hl)
  rw [List.length_append, List.length_singleton, List.append_assoc] at h2
  exact h2
theorem setCells_off {b : Nat} : ∀ (vs : List Value) (o : Nat) (w : World) (k : Nat), k ≠ b → (w.setCells b o vs).heap[k]? = w.heap[k]?
 | [], _, _, _, _ => rfl
 | v :: vs, o, w, k, h => by rw [World.setCells, setCells_off vs _ _ k h, setCell_off h]
theorem setCells_same {b : Nat} : ∀ (vs : List Value) (o : Nat) (w : World), (w.setCells b o vs).os = w.os ∧ (w.setCells b o vs).tape = w.tape ∧ (w.setCells b o vs).output = w.output ∧ (w.setCells b o vs).heap.size = w.heap.size
 | [], _, _ => ⟨rfl, rfl, rfl, rfl⟩
 | v :: vs, o, w => by
  rw [World.setCells]
  obtain ⟨h1, h2, h3, h4⟩ := setCells_same vs (o + 1) (w.setCell ⟨b, o, none⟩ v)
  exact ⟨h1, h2, h3, by rw [h4]; simp [World.setCell]⟩
theorem Upd.setCells {S : Nat} {cs : Array Value} {t : TypeId} {W W' : World} (h : Upd S cs t W W') (vs : List Value) (hl : vs.length = cs.size) : Upd S vs.toArray t W (W'.setCells S 0 vs) := by
 obtain ⟨h1, h2, h3, h4⟩ := setCells_same (b := S) vs 0 W'
 refine ⟨h1.trans h.os, h2.trans h.tape, h3.trans h.output, h4.trans h.size, ?_, fun k hk => (setCells_off vs 0 W' k hk).trans (h.off k hk)⟩
 have := setCells_row (b := S) (t := t) (fr := (0, 0)) vs [] cs.toList W' (by simpa using h.here) (by simpa using hl)
 simpa using this
theorem there_blk {w : World} {b : Nat} {cs : Array Value} {t : TypeId} (h : w.heap[b]? = some (.cells cs t (0, 0))) {n : Nat} (hn : n = cs.size) : w.there b 0 n := by
 subst hn
 intro j hj
 refine ⟨?_, frozen_blk h⟩
 rw [Nat.zero_add, cell_blk h (Array.getElem?_eq_getElem hj)]; rfl
theorem range_blk {w : World} {b : Nat} {cs : List Value} {t : TypeId} {fr : Nat × Nat} (h : w.heap[b]? = some (.cells cs.toArray t fr)) : w.rangeAt b 0 cs := by
 intro j v hv
 rw [Nat.zero_add]
 exact cell_blk h (by simpa using hv)
/-- an operation that yields without a look at the world -/
theorem wpList_yield {P : Program} {ops : Array Oper} {rest : List Oper} {op : Oper} {a : Act} {w : World} {Q : Exit → Act → World → Prop} (hgd : op.guard = none) (v : Value)
  (hv : (execOp a.eval op).run P w = .ok (.value v) w) (h : wpList P ops Q rest (a.put op.dst v) w) : wpList P ops Q (op :: rest) a w :=
 wpList_plain hgd fun _ hK => by
  unfold Oper.wp
  rw [hv]
  exact hK _ _ h
/-- a row is answered -/
theorem outRow {P : Program} {fn : Func} {ty t : TypeId} {p : Tmp} {n₀ : Nat} {W : World} {a : Act} {R : Ending → World → Prop} {cs : Array Value} {fr : Nat × Nat} (hf : fn.results = #[.cell p ty])
  (h2 : W.heap[n₀]? = some (.cells cs t fr)) (e2 : a.tmps.getD p undef = .pointer (some ⟨n₀, 0, none⟩)) (hd : a.defers = [])
  (hk : (P.underlying ty).map TypeDesc.isRow = some true) (hi : (P.info? ty).map (·.size) = some cs.size) (hR : R (.returned (.agg cs)) W) : bodyPost P fn R .ret a W := by
 obtain ⟨d, hu, hr⟩ := Option.map_eq_some_iff.1 hk
 exact bodyPost_ret (results_cell_row hf _ _ n₀ _ _ _ d e2 h2 hu (by cases d <;> first | rfl | cases hr) hi) hd hR
end Go.Proofs.YtempicociampoaaGreatDoor
namespace Go.Proofs.YtempicociampoaaGreatDoor
open Go.ChangeShapes Go.WideShapes Go.ChangeAt Go.RowKit Go.Joins Go.Deep

theorem part_le {H : Type} {d : DataW H} {l : List (DataW H)} (h : d ∈ l) : Rows.uptoBulk d ≤ Rows.uptoBulkAll l := by
 induction l with
 | nil => cases h
 | cons x r ih =>
  simp only [Rows.uptoBulkAll]
  rcases List.mem_cons.1 h with e | e
  ·subst e; omega
  ·have := ih e; omega

section
variable {H : Type} {enc : TypeId × Value → H} {P : Program}
/-- a slice of strings that came in: each is at most as long as the reading's bulk -/
theorem open_textsB {t e : TypeId} {W : World} {fuel : Nat} {v : Value} {x : DataW H × List MemPlace} (ht : P.underlying t = some (.slice e)) (he : P.underlying e = some .string) (hce : P.cellsOf e = 1)
  (h : DataW.trod enc P W 0 (fun _ => true) true fuel t [v] = some x) : ∃ l : List ByteArray, (∀ s ∈ l, s.size ≤ Rows.uptoBulk x.1) ∧ Sl W 1 encS v l := by
 rcases Go.Deep.open_strs ht he hce h with ⟨hcs, -⟩ | ⟨a, len, cap, m, S, hcs, -, hl, hm, hmm, hx0, hcell⟩
 ·simp at hcs
  subst hcs
  exact ⟨[], by simp, .inl ⟨rfl, rfl⟩⟩
 ·simp at hcs
  subst hcs
  simp only [if_true] at hmm
  subst hmm
  have hs0 : (List.range len).map S ≠ [] → a.spot = none := fun hne => by
   have h0 : 0 < len := by
    cases len with
    | zero => simp at hne
    | succ k => omega
   have := (hcell 0 (by omega)).1
   exact add_zero_spot (v := .string (S 0)) (by simpa [Addr.add] using this)
  refine ⟨(List.range len).map S, fun s hs => ?_, .inr ⟨a, _, by simp, by simpa using hl, hm, hs0, fun i x hi => ?_⟩⟩
  ·obtain ⟨i, hi, rfl⟩ := List.mem_map.1 hs
   have hi2 := List.mem_range.1 hi
   rw [hx0]
   simp only [Rows.uptoBulk]
   have h1 := part_le (H := H) (d := .lit (.string (S i).data.toList)) (l := (List.range len).map fun i => .lit (.string (S i).data.toList)) (List.mem_map.2 ⟨i, hi, rfl⟩)
   simp only [Rows.uptoBulk] at h1
   have h2 : (S i).data.toList.length = (S i).size := by rw [Array.length_toList]; rfl
   omega
  ·have hlt : i < len := by
    have := (List.getElem?_eq_some_iff.1 hi).1
    simpa using this
   have hx : x = S i := by
    simp [hlt] at hi
    exact hi.symm
   rw [hx]
   intro j u hj
   match j, hj with
   | 0, hj =>
    simp [encS] at hj; subst hj
    have hsp := hs0 (by cases len with | zero => exact absurd hlt (Nat.not_lt_zero _) | succ k => simp)
    have := (hcell i (by omega)).1
    obtain ⟨bb, oo, sp⟩ := a
    dsimp only at hsp
    subst hsp
    rw [show (⟨bb, oo, none⟩ : Addr).add i = ⟨bb, oo + i, none⟩ by by_cases h : i = 0 <;> simp [Addr.add, h]] at this
    simpa using this
   | j + 1, hj => simp [encS] at hj
end
section
variable {H : Type} {enc : TypeId × Value → H} {P : Program} {w : World} {base : Nat} {spare : Nat → Bool} {held : Bool}
theorem drop_one {cs : Array Value} {i : Nat} {c : Value} (h : cs[i]? = some c) : (cs.toList.drop i).take 1 = [c] := by
 obtain ⟨hi, he⟩ := Array.getElem?_eq_some_iff.1 h
 rw [List.drop_eq_getElem_cons (by simpa using hi)]
 simp [he]
/-- a struct whose fields have one cell each, that came in by value: each cell reads by itself -/
theorem struct_cells {r : Reach} {b0 : Nat} {t : TypeId} {fs : Array Field} {v : Value} {d : DataW H} {p : List MemPlace} (hs : P.underlying t = some (.struct fs)) (ho : ∀ (i : Nat) (f : Field), fs[i]? = some f → f.offset = i ∧ P.cellsOf f.type = 1)
  (hv : Value.okWide P w r b0 t v) (h : DataW.Trod enc P w base spare held t v d p) :
  ∃ (cs : Array Value) (ys : List (DataW H × List MemPlace)) (n : Nat), v = .agg cs ∧ cs.size = P.cellsOf t ∧ d = .agg (ys.map (·.1)) ∧
   ∀ (i : Nat) (f : Field) (c : Value), fs[i]? = some f → cs[i]? = some c → ∃ y, ys[i]? = some y ∧ DataW.trod enc P w base spare held n f.type [c] = some y := by
 obtain ⟨cs, rfl, hsz⟩ := okWide_struct hs hv
 obtain ⟨fuel, hf⟩ := h
 obtain ⟨xs, n, -, hx, -, hxl, hg⟩ := DataW.trod_struct hs hf
 refine ⟨cs, xs, n, rfl, hsz, congrArg Prod.fst hx, fun i f c h1 h2 => ?_⟩
 obtain ⟨o1, o2⟩ := ho i f h1
 have h3 := hg i f h1
 have hi : i < xs.length := by rw [hxl]; exact (Array.getElem?_eq_some_iff.1 h1).1
 rw [o1, o2] at h3
 have h4 : ((Value.agg cs).cells.toList.drop i).take 1 = [c] := drop_one h2
 rw [h4, List.getElem?_eq_getElem hi] at h3
 exact ⟨xs[i], List.getElem?_eq_getElem hi, h3⟩
end
end Go.Proofs.YtempicociampoaaGreatDoor
