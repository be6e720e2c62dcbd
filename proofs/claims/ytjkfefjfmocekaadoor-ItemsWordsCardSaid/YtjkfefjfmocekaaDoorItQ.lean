/- Plain laws of a word's items: their texts, their pens; of a part of two words. -/
import Derived.Test.YtjkfefjfmocekaaDoorItL
namespace Go.Proofs.YtjkfefjfmocekaaDoor
open Go.RowKit

/-- the texts of items, one behind the other -/
def catS (l : List It) : Nat → ByteArray
  | 0 => eb0
  | k + 1 => catS l k ++ (l.getD k ⟨0, 0, 0, 0, 0, eb0⟩).text
theorem catS_data (l : List It) (h : ∀ x ∈ l, textOf x = x.text.data.toList) : ∀ k, k ≤ l.length → (catS l k).data.toList = textB (l.take k) := by
  intro k
  induction k with
  | zero => intro _; simp [catS, textB, eb0]
  | succ k ih =>
    intro hk
    rw [catS, ba_app, ih (by omega), List.take_succ_eq_append_getElem (by omega), textB_append, List.getD_eq_getElem?_getD, List.getElem?_eq_getElem (by omega)]
    simp [textB, h l[k] (List.getElem_mem _)]
theorem catS_size (l : List It) (h : ∀ x ∈ l, textOf x = x.text.data.toList) (k : Nat) (hk : k ≤ l.length) : (catS l k).size ≤ (textB l).length := by
  have h1 := congrArg List.length (catS_data l h k hk)
  rw [size_toList] at h1
  have := textB_take l k
  omega
theorem pcIts_textOf (c : Int) (l : List (Nat × ByteArray)) : ∀ x ∈ pcIts c l, textOf x = x.text.data.toList := by
  induction l with
  | nil => intro x hx; simp [pcIts] at hx
  | cons y l ih =>
    have e : pcIts c (y :: l) = ((if 0 < y.1 then [penT c] else []) ++ [boxT y.2]) ++ pcIts c l := rfl
    intro x hx
    rw [e] at hx
    rcases List.mem_append.1 hx with h | h
    · rcases List.mem_append.1 h with h | h
      · split at h
        · rw [List.mem_singleton.1 h]; simp [textOf, penT, eb0]
        · cases h
      · rw [List.mem_singleton.1 h]; simp [textOf, boxT]
    · exact ih x h
theorem word_cat (c : Int) (s : ByteArray) : catS (wordI c s) (wordI c s).length = s :=
  ba_ext (by rw [catS_data (wordI c s) (pcIts_textOf c _) _ (Nat.le_refl _), List.take_length, word_text])

/-- how many pens items have -/
def penN (l : List It) : Nat := (l.map fun x => if x.kind = 3 then 1 else 0).sum
theorem penN_append (a b : List It) : penN (a ++ b) = penN a + penN b := by simp [penN]
theorem penN_take {l : List It} {k : Nat} (h : k < l.length) : penN (l.take (k + 1)) = penN (l.take k) + if l[k].kind = 3 then 1 else 0 := by
  rw [List.take_succ_eq_append_getElem h, penN_append]; simp [penN]
theorem penN_le (l : List It) : penN l ≤ l.length := by
  induction l with
  | nil => simp [penN]
  | cons x l ih =>
    have e : penN (x :: l) = (if x.kind = 3 then 1 else 0) + penN l := by simp [penN]
    rw [e, List.length_cons]; split <;> omega
theorem pcs_pens (c : Int) (s : ByteArray) : ∀ k, penN (pcIts c (pcsTo s (k + 1))) = k := by
  intro k
  induction k with
  | zero => simp [pcsTo, pcIts, penN, boxT]
  | succ k ih =>
    rw [pcsTo_succ s (k + 1), pcIts_snoc, if_pos (by simp), penN_append, penN_append, ih]
    simp [penN, penT, boxT]
theorem word_pens (c : Int) (s : ByteArray) : (wordI c s).length = 2 * penN (wordI c s) + 1 := by
  have := cuts_len s
  obtain ⟨n, hn⟩ : ∃ n, (cuts s).length = n + 1 := ⟨(cuts s).length - 1, by omega⟩
  unfold wordI pcsL
  rw [hn, pcs_pens, (pcs_seg c s n).2.1]
theorem items_two (c : Int) (a b : ByteArray) : itemsOf 1 0 c [a, b] = wordI c a ++ [spaceT] ++ wordI c b := by
  unfold itemsOf
  rw [if_neg (by decide)]
  simp [itemsTo, beginI]
theorem items_two3 (c : Int) (a b : ByteArray) : itemsOf 3 0 c [a, b] = [boxT ⟨#[42]⟩, tieT] ++ (wordI c a ++ [spaceT] ++ wordI c b) := by
  unfold itemsOf
  rw [if_neg (by decide)]
  simp [itemsTo, beginI]
end Go.Proofs.YtjkfefjfmocekaaDoor
