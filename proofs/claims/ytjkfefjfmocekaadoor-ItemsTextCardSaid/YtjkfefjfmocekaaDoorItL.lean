/- Plain laws of a part's items: what ItemsText and ItemsWords ask of them. -/
import Derived.Test.YtjkfefjfmocekaaDoorItF
import Derived.Test.YtjkfefjfmocekaaDoorItH
import Derived.Test.YtjkfefjfmocekaaDoorItM
import Derived.Test.YtjkfefjfmocekaaDoorItN
namespace Go.Proofs.YtjkfefjfmocekaaDoor
open Go.RowKit

theorem ba_ext {a b : ByteArray} (h : a.data.toList = b.data.toList) : a = b := by
  obtain ⟨⟨a⟩⟩ := a
  obtain ⟨⟨b⟩⟩ := b
  simp at h
  subst h
  rfl
theorem ba_app (a b : ByteArray) : (a ++ b).data.toList = a.data.toList ++ b.data.toList := by simp
theorem ba_extract (s : ByteArray) (i j : Nat) : (s.extract i j).data.toList = (s.data.toList.take j).drop i := by
  simp [ByteArray.data_extract, List.extract_eq_take_drop, List.take_drop]
  by_cases h : i ≤ j
  · rw [List.drop_take, show i + (j - i) - i = j - i by omega, List.drop_take]
  · rw [List.drop_eq_nil_of_le (by simp; omega), List.drop_eq_nil_of_le (by simp; omega)]

/-- pens stand between boxes -/
def PenOk (l : List It) : Prop := ∀ (i : Nat) (x : It), l[i]? = some x → x.kind = 3 → 0 < i ∧ (∃ y, l[i - 1]? = some y ∧ y.kind = 1) ∧ ∃ y, l[i + 1]? = some y ∧ y.kind = 1
theorem PenOk.append {a b : List It} (ha : PenOk a) (hb : PenOk b) : PenOk (a ++ b) := by
  intro i x hi hk
  by_cases h : i < a.length
  · rw [List.getElem?_append_left h] at hi
    obtain ⟨h0, ⟨y, h1, h2⟩, z, h3, h4⟩ := ha i x hi hk
    refine ⟨h0, ⟨y, ?_, h2⟩, z, ?_, h4⟩
    · rw [List.getElem?_append_left (by omega)]; exact h1
    · rw [List.getElem?_append_left (List.getElem?_eq_some_iff.1 h3).1]; exact h3
  · rw [List.getElem?_append_right (by omega)] at hi
    obtain ⟨h0, ⟨y, h1, h2⟩, z, h3, h4⟩ := hb _ x hi hk
    refine ⟨by omega, ⟨y, ?_, h2⟩, z, ?_, h4⟩
    · rw [List.getElem?_append_right (by omega), show i - 1 - a.length = i - a.length - 1 by omega]; exact h1
    · rw [List.getElem?_append_right (by omega), show i + 1 - a.length = i - a.length + 1 by omega]; exact h3
theorem PenOk.none {l : List It} (h : ∀ x ∈ l, x.kind ≠ 3) : PenOk l := fun _ x hi hk => absurd hk (h x (List.mem_of_getElem? hi))

/-- a word's pieces as items: boxes, pens between -/
theorem pcs_seg (c : Int) (s : ByteArray) : ∀ k, PenOk (pcIts c (pcsTo s (k + 1))) ∧ (pcIts c (pcsTo s (k + 1))).length = 2 * k + 1 ∧ ∃ y, (pcIts c (pcsTo s (k + 1)))[2 * k]? = some y ∧ y.kind = 1 := by
  intro k
  induction k with
  | zero =>
    have e : pcIts c (pcsTo s (0 + 1)) = [boxT (pieceAt s 0)] := by simp [pcsTo, pcIts]
    rw [e]
    exact ⟨PenOk.none (fun x hx => by rw [List.mem_singleton.1 hx]; show (1 : Int) ≠ 3; decide), rfl, _, rfl, rfl⟩
  | succ k ih =>
    obtain ⟨h1, h2, y, h3, h4⟩ := ih
    have e : pcIts c (pcsTo s (k + 1 + 1)) = pcIts c (pcsTo s (k + 1)) ++ [penT c, boxT (pieceAt s (k + 1))] := by
      rw [pcsTo_succ s (k + 1), pcIts_snoc, if_pos (by simp), List.append_assoc]; rfl
    rw [e]
    generalize pcIts c (pcsTo s (k + 1)) = L at *
    refine ⟨?_, by rw [List.length_append, h2]; simp; omega, boxT (pieceAt s (k + 1)), ?_, rfl⟩
    · intro i x hi hk
      by_cases h : i < L.length
      · rw [List.getElem?_append_left h] at hi
        obtain ⟨g0, ⟨z, g1, g2⟩, u, g3, g4⟩ := h1 i x hi hk
        refine ⟨g0, ⟨z, ?_, g2⟩, u, ?_, g4⟩
        · rw [List.getElem?_append_left (by omega)]; exact g1
        · rw [List.getElem?_append_left (List.getElem?_eq_some_iff.1 g3).1]; exact g3
      · by_cases hi0 : i = L.length
        · subst hi0
          refine ⟨by omega, ⟨y, ?_, h4⟩, boxT (pieceAt s (k + 1)), ?_, rfl⟩
          · rw [List.getElem?_append_left (by omega), h2]; exact h3
          · rw [List.getElem?_append_right (by omega), show L.length + 1 - L.length = 1 by omega]; rfl
        · rw [List.getElem?_append_right (by omega)] at hi
          obtain ⟨j, hj⟩ : ∃ j, i - L.length = j + 1 := ⟨i - L.length - 1, by omega⟩
          rw [hj] at hi
          cases j with
          | zero =>
            simp at hi
            subst hi
            simp [boxT] at hk
          | succ j => simp at hi
    · rw [List.getElem?_append_right (by omega), h2, show 2 * (k + 1) - (2 * k + 1) = 1 by omega]; rfl
theorem pcs_text (c : Int) (s : ByteArray) : ∀ k, k ≤ (cuts s).length → textB (pcIts c (pcsTo s k)) = s.data.toList.take (cutAt s k).toNat := by
  intro k
  induction k with
  | zero => intro _; simp [pcsTo, pcIts, textB, cutAt]
  | succ k ih =>
    intro hk
    have h1 := cutAt_mono s (k := k) (by omega)
    have h2 := cutAt_bd s k
    rw [pcsTo_succ, pcIts_snoc, textB_append, textB_append, ih (by omega)]
    have e1 : textB (if 0 < ((k, pieceAt s k) : Nat × ByteArray).1 then [penT c] else []) = [] := by
      split <;> simp [textB, textOf, penT]
    have e2 : textB [boxT (pieceAt s k)] = (s.data.toList.take (cutAt s (k + 1)).toNat).drop (cutAt s k).toNat := by
      rw [show textB [boxT (pieceAt s k)] = (pieceAt s k).data.toList by simp [textB, textOf, boxT]]
      unfold pieceAt
      rw [ba_extract]
    show _ ++ textB _ ++ textB [boxT (pieceAt s k)] = _
    rw [e1, e2, List.append_nil]
    have : s.data.toList.take (cutAt s k).toNat = (s.data.toList.take (cutAt s (k + 1)).toNat).take (cutAt s k).toNat := by
      rw [List.take_take, Nat.min_eq_left (by omega)]
    rw [this, List.take_append_drop]
theorem word_pen (c : Int) (s : ByteArray) : PenOk (wordI c s) := by
  have := cuts_len s
  obtain ⟨n, hn⟩ : ∃ n, (cuts s).length = n + 1 := ⟨(cuts s).length - 1, by omega⟩
  unfold wordI pcsL; rw [hn]; exact (pcs_seg c s n).1
theorem word_text (c : Int) (s : ByteArray) : textB (wordI c s) = s.data.toList := by
  unfold wordI pcsL
  rw [pcs_text c s _ (Nat.le_refl _), cutAt_end, Int.toNat_natCast, List.take_of_length_le (by rw [size_toList]; omega)]

/-- what each item of a part's is, but for the indent -/
def goodIt (kind c : Int) (x : It) : Prop :=
  (x.kind = 1 ∧ x.w = tm x.text ∧ x.y = 0 ∧ x.z = 0 ∧ x.cost = 0) ∨ (x.kind = 2 ∧ x.w = 4 ∧ x.text = eb0 ∧ x.cost = 0 ∧ ((x.y = 2 ∧ x.z = 1) ∨ x.y = 0)) ∨ (x.kind = 3 ∧ kind ≠ 2 ∧ x.w = 4 ∧ x.cost = c)
/-- the spaces of items -/
def spc (l : List It) : Nat := (l.map fun x => if x.kind = 2 ∧ 0 < x.y then 1 else 0).sum
theorem spc_append (a b : List It) : spc (a ++ b) = spc a + spc b := by simp [spc]
theorem spc_take {l : List It} {k : Nat} (h : k < l.length) : spc (l.take (k + 1)) = spc (l.take k) + if l[k].kind = 2 ∧ 0 < l[k].y then 1 else 0 := by
  rw [List.take_succ_eq_append_getElem h, spc_append]; simp [spc]
theorem spc_le (l : List It) : spc l ≤ l.length := by
  induction l with
  | nil => simp [spc]
  | cons x l ih =>
    have e : spc (x :: l) = (if x.kind = 2 ∧ 0 < x.y then 1 else 0) + spc l := by simp [spc]
    rw [e, List.length_cons]; split <;> omega
theorem good_box (kind c : Int) (s : ByteArray) : goodIt kind c (boxT s) := .inl ⟨rfl, rfl, rfl, rfl, rfl⟩
theorem pcs_good (kind c : Int) (hk : kind ≠ 2) (l : List (Nat × ByteArray)) : (∀ x ∈ pcIts c l, goodIt kind c x) ∧ spc (pcIts c l) = 0 := by
  induction l with
  | nil => exact ⟨fun x hx => by simp [pcIts] at hx, rfl⟩
  | cons y l ih =>
    have e : pcIts c (y :: l) = ((if 0 < y.1 then [penT c] else []) ++ [boxT y.2]) ++ pcIts c l := rfl
    rw [e, spc_append, spc_append, ih.2]
    refine ⟨fun x hx => ?_, ?_⟩
    · rcases List.mem_append.1 hx with h | h
      · rcases List.mem_append.1 h with h | h
        · split at h
          · rw [List.mem_singleton.1 h]; exact .inr (.inr ⟨rfl, hk, rfl, rfl⟩)
          · cases h
        · rw [List.mem_singleton.1 h]; exact good_box _ _ _
      · exact ih.1 x h
    · split <;> simp [spc, penT, boxT]

theorem items_pen (kind ind c : Int) (ws : List ByteArray) : ∀ k, PenOk (itemsTo kind ind c ws k) := by
  intro k
  induction k with
  | zero =>
    refine PenOk.none fun x hx => ?_
    unfold itemsTo beginI at hx
    split at hx
    · rw [List.mem_singleton.1 hx]; show (1 : Int) ≠ 3; decide
    · split at hx
      · simp at hx
        rcases hx with rfl | rfl
        · show (1 : Int) ≠ 3; decide
        · show (2 : Int) ≠ 3; decide
      · cases hx
  | succ k ih =>
    rw [itemsTo]
    refine (ih.append (PenOk.none fun x hx => ?_)).append ?_
    · split at hx
      · rw [List.mem_singleton.1 hx]; show (2 : Int) ≠ 3; decide
      · cases hx
    · split
      · exact PenOk.none fun x hx => by rw [List.mem_singleton.1 hx]; show (1 : Int) ≠ 3; decide
      · exact word_pen _ _
theorem items_spc (kind ind c : Int) (ws : List ByteArray) : ∀ k, spc (itemsTo kind ind c ws k) = k - 1 := by
  intro k
  induction k with
  | zero => unfold itemsTo beginI; split <;> (try split) <;> simp [spc, boxT, tieT]
  | succ k ih =>
    rw [itemsTo, spc_append, spc_append, ih]
    have e1 : spc (if 0 < k then [spaceT] else []) = if 0 < k then 1 else 0 := by split <;> simp [spc, spaceT]
    have e2 : spc (if kind = 2 then [boxT (ws.getD k eb0)] else wordI c (ws.getD k eb0)) = 0 := by
      split
      · simp [spc, boxT]
      · rename_i h; exact (pcs_good kind c h _).2
    rw [e1, e2]; split <;> omega
theorem items_good (kind ind c : Int) (ws : List ByteArray) : ∀ k i x, (itemsTo kind ind c ws k)[i]? = some x → goodIt kind c x ∨ (i = 0 ∧ x = ⟨1, ind, 0, 0, 0, eb0⟩) := by
  intro k
  induction k with
  | zero =>
    intro i x hx
    unfold itemsTo beginI at hx
    split at hx
    · cases i with
      | zero => simp at hx; exact .inr ⟨rfl, hx.symm⟩
      | succ i => simp at hx
    · split at hx
      · left
        have := List.mem_of_getElem? hx
        simp at this
        rcases this with rfl | rfl
        · exact good_box _ _ _
        · exact .inr (.inl ⟨rfl, rfl, rfl, rfl, .inr rfl⟩)
      · simp at hx
  | succ k ih =>
    intro i x hx
    rw [itemsTo, List.append_assoc] at hx
    by_cases h : i < (itemsTo kind ind c ws k).length
    · rw [List.getElem?_append_left h] at hx; exact ih i x hx
    · rw [List.getElem?_append_right (by omega)] at hx
      left
      rcases List.mem_append.1 (List.mem_of_getElem? hx) with h | h
      · split at h
        · rw [List.mem_singleton.1 h]; exact .inr (.inl ⟨rfl, rfl, rfl, rfl, .inl ⟨rfl, rfl⟩⟩)
        · cases h
      · split at h
        · rw [List.mem_singleton.1 h]; exact good_box _ _ _
        · rename_i hk; exact (pcs_good kind c hk _).1 x h

/-- the text that a part's items have -/
def wantS (kind : Int) (ws : List ByteArray) : Nat → ByteArray
  | 0 => if kind = 3 then ⟨#[42, 32]⟩ else eb0
  | k + 1 => (if 0 < k then wantS kind ws k ++ ⟨#[32]⟩ else wantS kind ws k) ++ ws.getD k eb0
theorem items_text (kind ind c : Int) (ws : List ByteArray) (hk : 1 ≤ kind ∧ kind ≤ 3) : ∀ k, textB (itemsTo kind ind c ws k) = (wantS kind ws k).data.toList := by
  intro k
  induction k with
  | zero =>
    unfold itemsTo wantS beginI
    split
    · rename_i h
      rw [if_neg (by omega)]
      simp [textB, textOf, eb0]
    · split
      · simp [textB, textOf, boxT, tieT]
      · simp [textB, eb0]
  | succ k ih =>
    rw [itemsTo, textB_append, textB_append, ih, wantS, ba_app]
    have e2 : textB (if kind = 2 then [boxT (ws.getD k eb0)] else wordI c (ws.getD k eb0)) = (ws.getD k eb0).data.toList := by
      split
      · simp [textB, textOf, boxT]
      · exact word_text _ _
    rw [e2]
    split
    · rw [ba_app]; simp [textB, textOf, spaceT]
    · simp [textB]
theorem items_textS (kind ind c : Int) (ws : List ByteArray) (hk : 1 ≤ kind ∧ kind ≤ 3) (k : Nat) : (⟨(textB (itemsTo kind ind c ws k)).toArray⟩ : ByteArray) = wantS kind ws k :=
  ba_ext (by simp [items_text kind ind c ws hk k])
theorem textOf_le {l : List It} {x : It} (h : x ∈ l) : (textOf x).length ≤ (textB l).length := by
  induction l with
  | nil => cases h
  | cons y l ih =>
    have e : textB (y :: l) = textOf y ++ textB l := rfl
    rw [e, List.length_append]
    rcases List.mem_cons.1 h with rfl | h
    · omega
    · have := ih h; omega
theorem tm_eb0 : tm eb0 = 0 := by
  have h : sgn [] = [] := sgn_of (by intro x hx; cases hx) rfl
  show sumw (sgn []) = 0
  rw [h]; rfl
theorem sum_take_le (ws : List ByteArray) (k : Nat) : bytesOf (ws.take k) ≤ bytesOf ws := by
  have h := congrArg bytesOf (List.take_append_drop k ws)
  unfold bytesOf at h ⊢
  rw [List.map_append, List.sum_append] at h
  omega
theorem wantS_size (kind : Int) (ws : List ByteArray) : ∀ k, k ≤ ws.length → (wantS kind ws k).size ≤ 2 + k + bytesOf (ws.take k) := by
  intro k
  induction k with
  | zero => intro _; unfold wantS; split <;> simp [eb0] <;> decide
  | succ k ih =>
    intro hk
    have h := ih (by omega)
    have h2 : bytesOf (ws.take (k + 1)) = bytesOf (ws.take k) + (ws.getD k eb0).size := by
      rw [List.take_succ_eq_append_getElem (by omega)]
      unfold bytesOf
      rw [List.map_append, List.sum_append, List.getD_eq_getElem?_getD, List.getElem?_eq_getElem (by omega)]
      simp
    rw [wantS, ByteArray.size_append, h2]
    split
    · rw [ByteArray.size_append]
      have : (⟨#[32]⟩ : ByteArray).size = 1 := rfl
      omega
    · omega
end Go.Proofs.YtjkfefjfmocekaaDoor
