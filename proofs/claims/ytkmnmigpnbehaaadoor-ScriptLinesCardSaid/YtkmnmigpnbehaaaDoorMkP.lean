/- Plain laws of markup: lines, words, parts. -/
import Derived.Test.YtkmnmigpnbehaaaDoorUtfP
namespace Go.Proofs.YtkmnmigpnbehaaaDoor
open Go.RowKit Go.Lib

abbrev L8 := List UInt8
abbrev P8 := Int × List L8

/-- cut between bytes of a kind -/
def cutB (c : UInt8) : L8 → List L8
  | [] => [[]]
  | x :: r => if x = c then [] :: cutB c r else (x :: (cutB c r).headD []) :: (cutB c r).tail
theorem cutB_ne (c : UInt8) (l : L8) : cutB c l ≠ [] := by
  cases l with
  | nil => simp [cutB]
  | cons x r => unfold cutB; split <;> simp
theorem cutB_cons (c : UInt8) (l : L8) : ∃ h t, cutB c l = h :: t := by
  cases h : cutB c l with
  | nil => exact absurd h (cutB_ne c l)
  | cons x r => exact ⟨x, r, rfl⟩
theorem cutB_none {c : UInt8} : ∀ {l : L8}, c ∉ l → cutB c l = [l] := by
  intro l
  induction l with
  | nil => intro _; rfl
  | cons x r ih =>
    intro h
    simp only [List.mem_cons, not_or] at h
    unfold cutB
    rw [if_neg (fun e => h.1 e.symm), ih h.2]; rfl
theorem cutB_app (c : UInt8) (a b : L8) : cutB c (a ++ c :: b) = cutB c a ++ cutB c b := by
  induction a with
  | nil => simp [cutB]
  | cons x r ih =>
    obtain ⟨h, t, e⟩ := cutB_cons c r
    rw [List.cons_append, cutB, ih, cutB, e]
    split <;> simp
theorem cutB_hit {c : UInt8} {a : L8} (b : L8) (h : c ∉ a) : cutB c (a ++ c :: b) = a :: cutB c b := by
  rw [cutB_app, cutB_none h]; rfl
theorem cutB_mem {c : UInt8} : ∀ {l : L8} {w : L8}, w ∈ cutB c l → c ∉ w := by
  intro l
  induction l with
  | nil => intro w h; simp [cutB] at h; subst h; simp
  | cons x r ih =>
    intro w h
    obtain ⟨g, t, e⟩ := cutB_cons c r
    rw [cutB, e] at h
    split at h
    · rcases List.mem_cons.1 h with rfl | h
      · simp
      · exact ih (by rw [e]; exact h)
    · rename_i hx
      rcases List.mem_cons.1 h with rfl | h
      · simp only [List.headD_cons, List.mem_cons, not_or]
        exact ⟨fun e => hx e.symm, ih (by rw [e]; exact List.mem_cons_self)⟩
      · exact ih (by rw [e]; exact List.mem_cons_of_mem _ h)
theorem cutB_sub {c : UInt8} : ∀ {l : L8} {w : L8} {b : UInt8}, w ∈ cutB c l → b ∈ w → b ∈ l := by
  intro l
  induction l with
  | nil => intro w b h hb; simp [cutB] at h; subst h; simp at hb
  | cons x r ih =>
    intro w b h hb
    obtain ⟨g, t, e⟩ := cutB_cons c r
    rw [cutB, e] at h
    split at h
    · rcases List.mem_cons.1 h with rfl | h
      · simp at hb
      · exact List.mem_cons_of_mem _ (ih (by rw [e]; exact h) hb)
    · rcases List.mem_cons.1 h with rfl | h
      · rcases List.mem_cons.1 hb with rfl | hb
        · exact List.mem_cons_self
        · exact List.mem_cons_of_mem _ (ih (by rw [e]; exact List.mem_cons_self) hb)
      · exact List.mem_cons_of_mem _ (ih (by rw [e]; exact List.mem_cons_of_mem _ h) hb)
theorem cutB_len (c : UInt8) (l : L8) : (cutB c l).length ≤ l.length + 1 := by
  induction l with
  | nil => simp [cutB]
  | cons x r ih =>
    obtain ⟨g, t, e⟩ := cutB_cons c r
    rw [cutB, e]; rw [e] at ih
    split <;> simp at ih ⊢ <;> omega

/-- a line's words -/
def wordsL (l : L8) : List L8 := (cutB 32 l).filter fun w => !w.isEmpty
theorem wordsL_app (a b : L8) : wordsL (a ++ 32 :: b) = wordsL a ++ wordsL b := by unfold wordsL; rw [cutB_app, List.filter_append]
theorem wordsL_nil : wordsL [] = [] := rfl
theorem wordsL_one {w : L8} (h : w ≠ []) (h2 : (32 : UInt8) ∉ w) : wordsL w = [w] := by
  unfold wordsL
  rw [cutB_none h2]
  cases w with
  | nil => exact absurd rfl h
  | cons x r => rfl
theorem wordsL_mem {l w : L8} (h : w ∈ wordsL l) : w ≠ [] ∧ (32 : UInt8) ∉ w := by
  unfold wordsL at h
  obtain ⟨h1, h2⟩ := List.mem_filter.1 h
  exact ⟨by rintro rfl; simp at h2, cutB_mem h1⟩
theorem wordsL_sub {l w : L8} {b : UInt8} (h : w ∈ wordsL l) (hb : b ∈ w) : b ∈ l := cutB_sub (List.mem_filter.1 h).1 hb
theorem wordsL_len (l : L8) : (wordsL l).length ≤ l.length + 1 := Nat.le_trans (List.length_filter_le _ _) (cutB_len 32 l)
theorem wordsL_eq (l : L8) (h : l ≠ []) : wordsL (61 :: 32 :: l) = [61] :: wordsL l := by
  have := wordsL_app [61] l
  simpa [wordsL_one (w := [61]) (by simp) (by simp)] using this
theorem wordsL_mark (m : UInt8) (hm : m ≠ 32) (l : L8) : wordsL (m :: 32 :: l) = [m] :: wordsL l := by
  have := wordsL_app [m] l
  rw [wordsL_one (w := [m]) (by simp) (by simp; exact fun e => hm e.symm)] at this
  simpa using this

/-- words onto the last part -/
def addLast (out : List P8) (w : List L8) : List P8 := out.dropLast ++ [((out.getLastD (1, [])).1, (out.getLastD (1, [])).2 ++ w)]
theorem addLast_app (a out : List P8) (w : List L8) (h : out ≠ []) : addLast (a ++ out) w = a ++ addLast out w := by
  unfold addLast
  rw [List.dropLast_append_of_ne_nil h, List.append_assoc]
  have : (a ++ out).getLastD (1, []) = out.getLastD (1, []) := by
    rw [List.getLastD_eq_getLast?, List.getLastD_eq_getLast?, List.getLast?_append, List.getLast?_eq_some_getLast h]; rfl
  rw [this]
theorem addLast_snoc (out : List P8) (k : Int) (ws w : List L8) : addLast (out ++ [(k, ws)]) w = out ++ [(k, ws ++ w)] := by
  unfold addLast
  rw [List.dropLast_concat, List.getLastD_concat]

abbrev PSt := List P8 × Bool
/-- one line more -/
def stepP (x : L8) (st : PSt) : Option PSt :=
  if x.take 2 = [61, 32] then (if wordsL (x.drop 2) = [] then none else some (st.1 ++ [(2, wordsL (x.drop 2))], false))
  else if x.take 2 = [45, 32] then (if wordsL (x.drop 2) = [] then none else some (st.1 ++ [(3, wordsL (x.drop 2))], false))
  else if x = [45, 45, 45] then some (st.1 ++ [(4, [])], false)
  else if wordsL x = [] then some (st.1, false)
  else if st.2 = true then some (addLast st.1 (wordsL x), true)
  else some (st.1 ++ [(1, wordsL x)], true)
def foldP : List L8 → PSt → Option PSt
  | [], st => some st
  | x :: r, st => (stepP x st).bind (foldP r)
theorem foldP_app (a b : List L8) (st : PSt) : foldP (a ++ b) st = (foldP a st).bind (foldP b) := by
  induction a generalizing st with
  | nil => rfl
  | cons x r ih =>
    rw [List.cons_append, foldP, foldP]
    cases stepP x st with
    | none => rfl
    | some s => exact ih s
/-- the parts of a source's lines -/
def parseL (s : L8) : Option (List P8) := (foldP (cutB 10 s) ([], false)).map (·.1)

theorem stepP_pre (a : List P8) (x : L8) (st : PSt) (h : st.2 = true → st.1 ≠ []) : stepP x (a ++ st.1, st.2) = (stepP x st).map fun s => (a ++ s.1, s.2) := by
  unfold stepP
  split
  · split <;> simp
  · split
    · split <;> simp
    · split
      · simp
      · split
        · simp
        · split
          · rename_i h2; simp [addLast_app a st.1 _ (h h2)]
          · simp
theorem stepP_inv {x : L8} {st st' : PSt} (h : stepP x st = some st') : st'.2 = true → st'.1 ≠ [] := by
  unfold stepP at h
  repeat' split at h
  all_goals (try cases h)
  all_goals simp [addLast]
theorem foldP_pre (a : List P8) : ∀ (l : List L8) (st : PSt), (st.2 = true → st.1 ≠ []) → foldP l (a ++ st.1, st.2) = (foldP l st).map fun s => (a ++ s.1, s.2) := by
  intro l
  induction l with
  | nil => intro st _; rfl
  | cons x r ih =>
    intro st h
    rw [foldP, foldP, stepP_pre a x st h]
    cases e : stepP x st with
    | none => rfl
    | some s => exact ih s (stepP_inv e)
theorem stepP_nil (st : PSt) : stepP [] st = some (st.1, false) := by unfold stepP; simp [wordsL_nil]
theorem parse_gap (s t : L8) : parseL (s ++ 10 :: 10 :: t) = (parseL s).bind fun a => (parseL t).map fun b => a ++ b := by
  unfold parseL
  rw [cutB_app, foldP_app]
  cases foldP (cutB 10 s) ([], false) with
  | none => rfl
  | some st =>
    have h1 : cutB 10 (10 :: t) = [] :: cutB 10 t := by rw [cutB, if_pos rfl]
    show (foldP (cutB 10 (10 :: t)) st).map _ = _
    rw [h1, foldP, stepP_nil]
    have h2 := foldP_pre st.1 (cutB 10 t) ([], false) (by simp)
    simp only [List.append_nil] at h2
    show (foldP (cutB 10 t) (st.1, false)).map _ = _
    rw [h2]
    cases foldP (cutB 10 t) ([], false) with
    | none => rfl
    | some u => rfl

/-- a part's words, with its mark -/
def markOf (k : Int) : List L8 := if k = 2 then [[61]] else if k = 3 then [[45]] else if k = 4 then [[45, 45, 45]] else []
def haveP (l : List P8) : List L8 := l.flatMap fun p => markOf p.1 ++ p.2
theorem haveP_app (a b : List P8) : haveP (a ++ b) = haveP a ++ haveP b := by simp [haveP]
theorem haveP_last (out : List P8) (w : List L8) (h : out ≠ []) : haveP (addLast out w) = haveP out ++ w := by
  obtain ⟨pre, p, rfl⟩ : ∃ pre p, out = pre ++ [p] := ⟨out.dropLast, out.getLast h, (List.dropLast_concat_getLast h).symm⟩
  obtain ⟨k, ws⟩ := p
  rw [addLast_snoc, haveP_app, haveP_app]
  simp [haveP]
theorem take2 {x : L8} {a b : UInt8} (h : x.take 2 = [a, b]) : x = a :: b :: x.drop 2 := by
  have := List.take_append_drop 2 x
  rw [h] at this
  exact this.symm
theorem stepP_have {x : L8} {st st' : PSt} (hst : st.2 = true → st.1 ≠ []) (h : stepP x st = some st') : haveP st'.1 = haveP st.1 ++ wordsL x := by
  unfold stepP at h
  split at h
  · rename_i h1
    split at h
    · cases h
    · cases h
      rw [haveP_app, take2 h1, wordsL_mark _ (by decide)]
      simp [haveP, markOf]
  · split at h
    · rename_i h1
      split at h
      · cases h
      · cases h
        rw [haveP_app, take2 h1, wordsL_mark _ (by decide)]
        simp [haveP, markOf]
    · split at h
      · rename_i h1
        cases h
        rw [haveP_app, h1, wordsL_one (by simp) (by simp)]
        simp [haveP, markOf]
      · split at h
        · rename_i h1
          cases h
          rw [h1]; simp
        · split at h
          · rename_i h2
            cases h
            exact haveP_last _ _ (hst h2)
          · cases h
            rw [haveP_app]; simp [haveP, markOf]
theorem foldP_have : ∀ (l : List L8) (st st' : PSt), (st.2 = true → st.1 ≠ []) → foldP l st = some st' → haveP st'.1 = haveP st.1 ++ l.flatMap wordsL := by
  intro l
  induction l with
  | nil => intro st st' _ h; cases h; simp
  | cons x r ih =>
    intro st st' h0 h
    rw [foldP] at h
    cases e : stepP x st with
    | none => rw [e] at h; cases h
    | some s =>
      rw [e] at h
      rw [ih s st' (stepP_inv e) h, stepP_have h0 e]
      simp
theorem parse_have {s : L8} {l : List P8} (h : parseL s = some l) : haveP l = (cutB 10 s).flatMap wordsL := by
  unfold parseL at h
  cases e : foldP (cutB 10 s) ([], false) with
  | none => rw [e] at h; cases h
  | some st =>
    rw [e] at h; cases h
    simpa [haveP] using foldP_have _ _ _ (by simp) e
theorem foldP_len : ∀ (l : List L8) (st st' : PSt), foldP l st = some st' → st'.1.length ≤ st.1.length + l.length := by
  intro l
  induction l with
  | nil => intro st st' h; cases h; simp
  | cons x r ih =>
    intro st st' h
    rw [foldP] at h
    cases e : stepP x st with
    | none => rw [e] at h; cases h
    | some s =>
      rw [e] at h
      have h1 := ih s st' h
      have h2 : s.1.length ≤ st.1.length + 1 := by
        unfold stepP at e
        repeat' split at e
        all_goals (try cases e)
        all_goals (try simp [addLast])
        all_goals (try omega)
      simp at h1 ⊢; omega

/-- one text behind the other, with something between -/
def joinB (sep : L8) : List L8 → L8
  | [] => []
  | [x] => x
  | x :: y :: r => x ++ sep ++ joinB sep (y :: r)
theorem joinB_cons (sep x : L8) {r : List L8} (h : r ≠ []) : joinB sep (x :: r) = x ++ sep ++ joinB sep r := by
  cases r with
  | nil => exact absurd rfl h
  | cons y r => rfl
/-- a part's line -/
def lineP (p : P8) : L8 := if p.1 = 2 then [61, 32] ++ joinB [32] p.2 else if p.1 = 3 then [45, 32] ++ joinB [32] p.2 else if p.1 = 4 then [45, 45, 45] else joinB [32] p.2
def sourceL (l : List P8) : L8 := joinB [10, 10] (l.map lineP)
theorem words_join : ∀ ws : List L8, (∀ w ∈ ws, w ≠ [] ∧ (32 : UInt8) ∉ w) → wordsL (joinB [32] ws) = ws := by
  intro ws
  induction ws with
  | nil => intro _; rfl
  | cons x r ih =>
    intro h
    have hx := h x List.mem_cons_self
    cases r with
    | nil => exact wordsL_one hx.1 hx.2
    | cons y r =>
      rw [joinB_cons _ _ (by simp), List.append_assoc, List.singleton_append, wordsL_app, wordsL_one hx.1 hx.2, ih fun w hw => h w (List.mem_cons_of_mem _ hw)]
      rfl
theorem join_mem {sep : L8} {b : UInt8} : ∀ {ws : List L8}, b ∈ joinB sep ws → b ∈ sep ∨ ∃ w ∈ ws, b ∈ w := by
  intro ws
  induction ws with
  | nil => intro h; cases h
  | cons x r ih =>
    intro h
    cases r with
    | nil => exact .inr ⟨x, List.mem_cons_self, h⟩
    | cons y r =>
      rw [joinB_cons _ _ (by simp)] at h
      rcases List.mem_append.1 h with h | h
      · rcases List.mem_append.1 h with h | h
        · exact .inr ⟨x, List.mem_cons_self, h⟩
        · exact .inl h
      · rcases ih h with h | ⟨w, hw, hb⟩
        · exact .inl h
        · exact .inr ⟨w, List.mem_cons_of_mem _ hw, hb⟩
end Go.Proofs.YtkmnmigpnbehaaaDoor
