/- Plain laws of a part as items. -/
import Derived.Test.YtempicociampoaaGreatDoorJ0
import Derived.Test.YtempicociampoaaGreatDoorJ14
import Derived.Test.YtempicociampoaaGreatDoorJ18
namespace Go.Proofs.YtempicociampoaaGreatDoor
open Go.RowKit

theorem pts_ok (nums : List Int) : ∀ k, (∀ x ∈ pointsTo nums k, 2 ≤ x ∧ x ≤ k ∧ x + 3 ≤ nums.length + 1) ∧ (pointsTo nums k).Pairwise (· < ·) := by
 intro k
 induction k with
 | zero => exact ⟨fun x hx => (by cases hx), List.Pairwise.nil⟩
 | succ k ih =>
  obtain ⟨h1, h2⟩ := ih
  rw [pointsTo]
  refine ⟨fun x hx => ?_, ?_⟩
  ·rcases List.mem_append.1 hx with h | h
   ·have := h1 x h; omega
   ·split at h
    ·rename_i hc
     obtain rfl : x = (k : Int) + 1 := by simpa using h
     omega
    ·cases h
  ·refine List.pairwise_append.2 ⟨h2, ?_, fun a ha b hb => ?_⟩
   ·split
    ·exact List.pairwise_singleton _ _
    ·exact List.Pairwise.nil
   ·split at hb
    ·obtain rfl : b = (k : Int) + 1 := by simpa using hb
     have := h1 a ha; omega
    ·cases hb
theorem numbersL_size (s : List UInt8) : (numbersL s).length + 1 ≤ s.length ∨ numbersL s = [] := by
 unfold numbersL
 split
 ·exact .inr rfl
 ·rename_i lw h
  left
  unfold smallL at h
  split at h
  ·rename_i hc
   cases h
   rw [numsOf_len (by rw [List.length_map]; omega), List.length_map]
   omega
  ·cases h
theorem points_ok (s : List UInt8) : (∀ x ∈ pointsL (numbersL s), 0 < x ∧ x < s.length) ∧ (pointsL (numbersL s)).Pairwise (· < ·) ∧ (pointsL (numbersL s)).length ≤ 59 := by
 unfold pointsL
 split
 ·exact ⟨fun x hx => by (cases hx), List.Pairwise.nil, by simp⟩
 ·obtain ⟨h1, h2⟩ := pts_ok (numbersL s) (numbersL s).length
  have h3 := pointsTo_len (numbersL s) (numbersL s).length
  have h4 := numbersL_len s
  refine ⟨fun x hx => ?_, h2, by omega⟩
  have h5 := h1 x hx
  rcases numbersL_size s with h | h
  ·omega
  ·rw [h] at h5; simp at h5; omega

/-- where a word is cut, its end too -/
def cuts (s : ByteArray) : List Int := pointsL (numbersL s.data.toList) ++ [(s.size : Int)]
theorem cuts_len (s : ByteArray) : 1 ≤ (cuts s).length ∧ (cuts s).length ≤ 60 := by
 have := (points_ok s.data.toList).2.2
 unfold cuts; simp; omega
theorem size_toList (s : ByteArray) : s.data.toList.length = s.size := by rw [Array.length_toList]; rfl
theorem cuts_bd (s : ByteArray) : ∀ x ∈ cuts s, 0 ≤ x ∧ x ≤ s.size := by
 intro x hx
 rcases List.mem_append.1 hx with h | h
 ·have := (points_ok s.data.toList).1 x h
  rw [size_toList] at this; omega
 ·obtain rfl : x = (s.size : Int) := by simpa using h
  omega
theorem cuts_mono (s : ByteArray) : (cuts s).Pairwise (· ≤ ·) := by
 unfold cuts
 refine List.pairwise_append.2 ⟨(points_ok s.data.toList).2.1.imp (fun h => Int.le_of_lt h), List.pairwise_singleton _ _, fun a ha b hb => ?_⟩
 obtain rfl : b = (s.size : Int) := by simpa using hb
 have := (points_ok s.data.toList).1 a ha
 rw [size_toList] at this; omega
/-- where piece k begins -/
def cutAt (s : ByteArray) : Nat → Int
 | 0 => 0
 | k + 1 => (cuts s).getD k 0
theorem cutAt_bd (s : ByteArray) (k : Nat) : 0 ≤ cutAt s k ∧ cutAt s k ≤ s.size := by
 cases k with
 | zero => simp [cutAt]
 | succ k =>
  show 0 ≤ (cuts s).getD k 0 ∧ (cuts s).getD k 0 ≤ s.size
  rw [List.getD_eq_getElem?_getD]
  cases h : (cuts s)[k]? with
  | none => simp
  | some x => exact cuts_bd s x (List.mem_of_getElem? h)
theorem cutAt_mono (s : ByteArray) {k : Nat} (h : k < (cuts s).length) : cutAt s k ≤ cutAt s (k + 1) := by
 cases k with
 | zero => exact (cutAt_bd s 1).1
 | succ k =>
  show (cuts s).getD k 0 ≤ (cuts s).getD (k + 1) 0
  rw [List.getD_eq_getElem?_getD, List.getD_eq_getElem?_getD, List.getElem?_eq_getElem h, List.getElem?_eq_getElem (by omega)]
  exact List.pairwise_iff_getElem.1 (cuts_mono s) k (k + 1) (by omega) h (by omega)
theorem cutAt_end (s : ByteArray) : cutAt s (cuts s).length = s.size := by
 have h := cuts_len s
 obtain ⟨n, hn⟩ : ∃ n, (cuts s).length = n + 1 := ⟨(cuts s).length - 1, by omega⟩
 rw [hn, cutAt, List.getD_eq_getElem?_getD]
 unfold cuts at hn ⊢
 have : (pointsL (numbersL s.data.toList)).length = n := by simpa using hn
 rw [List.getElem?_append_right (by omega), this]; simp

/-- a word's pieces, counted -/
def pieceAt (s : ByteArray) (k : Nat) : ByteArray := s.extract (cutAt s k).toNat (cutAt s (k + 1)).toNat
def pcsTo (s : ByteArray) (k : Nat) : List (Nat × ByteArray) := (List.range k).map fun i => (i, pieceAt s i)
def pcsL (s : ByteArray) : List (Nat × ByteArray) := pcsTo s (cuts s).length
theorem pcsTo_succ (s : ByteArray) (k : Nat) : pcsTo s (k + 1) = pcsTo s k ++ [(k, pieceAt s k)] := by simp [pcsTo, List.range_succ]
theorem pcsTo_len (s : ByteArray) (k : Nat) : (pcsTo s k).length = k := by simp [pcsTo]
theorem pcsTo_prefix (s : ByteArray) {j k : Nat} (h : j ≤ k) : pcsTo s j <+: pcsTo s k := by
 unfold pcsTo
 obtain ⟨d, rfl⟩ : ∃ d, k = j + d := ⟨k - j, by omega⟩
 rw [List.range_add, List.map_append]
 exact List.prefix_append _ _

def eb0 : ByteArray := ⟨#[]⟩
noncomputable def tm (t : ByteArray) : Int := sumw (sgn t.data.toList)
noncomputable def boxT (t : ByteArray) : It := ⟨1, tm t, 0, 0, 0, t⟩
def penT (c : Int) : It := ⟨3, 4, 0, 0, c, eb0⟩
def spaceT : It := ⟨2, 4, 2, 1, 0, eb0⟩
def tieT : It := ⟨2, 4, 0, 0, 0, eb0⟩
theorem tm_bd (t : ByteArray) : 0 ≤ tm t ∧ tm t ≤ 10 * t.size := by
 have h1 := sumw_bd (sgn t.data.toList)
 have h2 := sgn_len t
 unfold tm; omega
noncomputable def pcIts (c : Int) (l : List (Nat × ByteArray)) : List It := l.flatMap fun x => (if 0 < x.1 then [penT c] else []) ++ [boxT x.2]
theorem pcIts_snoc (c : Int) (l : List (Nat × ByteArray)) (x : Nat × ByteArray) : pcIts c (l ++ [x]) = pcIts c l ++ (if 0 < x.1 then [penT c] else []) ++ [boxT x.2] := by simp [pcIts, List.append_assoc]
theorem pcIts_len (c : Int) (l : List (Nat × ByteArray)) : (pcIts c l).length ≤ 2 * l.length := by
 induction l with
 | nil => simp [pcIts]
 | cons x l ih =>
  have e : pcIts c (x :: l) = ((if 0 < x.1 then [penT c] else []) ++ [boxT x.2]) ++ pcIts c l := rfl
  rw [e, List.length_append, List.length_append, List.length_cons]
  split <;> simp <;> omega
noncomputable def wordI (c : Int) (s : ByteArray) : List It := pcIts c (pcsL s)
theorem wordI_len (c : Int) (s : ByteArray) : (wordI c s).length ≤ 120 := by
 have h1 := pcIts_len c (pcsL s)
 have h2 := cuts_len s
 unfold pcsL at h1
 rw [pcsTo_len] at h1
 unfold wordI pcsL; omega

noncomputable def beginI (kind ind : Int) : List It := if kind = 1 ∧ 0 < ind then [⟨1, ind, 0, 0, 0, eb0⟩] else if kind = 3 then [boxT ⟨#[42]⟩, tieT] else []
/-- the items of a part's first k words -/
noncomputable def itemsTo (kind ind c : Int) (ws : List ByteArray) : Nat → List It
 | 0 => beginI kind ind
 | k + 1 => itemsTo kind ind c ws k ++ (if 0 < k then [spaceT] else []) ++ (if kind = 2 then [boxT (ws.getD k eb0)] else wordI c (ws.getD k eb0))
noncomputable def itemsOf (kind ind c : Int) (ws : List ByteArray) : List It := if kind < 1 ∨ 3 < kind then [] else itemsTo kind ind c ws ws.length
theorem beginI_len (kind ind : Int) : (beginI kind ind).length ≤ 2 := by unfold beginI; split <;> (try split) <;> simp
theorem itemsTo_len (kind ind c : Int) (ws : List ByteArray) : ∀ k, (itemsTo kind ind c ws k).length ≤ 2 + 121 * k := by
 intro k
 induction k with
 | zero => exact beginI_len kind ind
 | succ k ih =>
  have := wordI_len c (ws.getD k eb0)
  rw [itemsTo, List.length_append, List.length_append]
  generalize wordI c (ws.getD k eb0) = X at *
  split <;> split <;> simp <;> omega
end Go.Proofs.YtempicociampoaaGreatDoor
