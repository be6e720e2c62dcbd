/- script's words; plain laws of a form that is matched word by word. -/
import Derived.Test.YtkmnmigpnbehaaaDoorScE
namespace Go.Proofs.YtkmnmigpnbehaaaDoor
open Go.RowKit Go.Shelf Go.Lib

set_option maxRecDepth 100000 in
theorem swords_any (s : ByteArray) (w : World) :
    Calls Tryd.prog 24 #[.string s] w fun e w' => e = .returned (.func (.func 31) #[] #[.pointer (some ⟨w.heap.size, 0, none⟩)]) ∧ w' = w.alloc (.cells #[.string s] 9) := by
  go_enter Tryd.func24, Tryd.ntmps24
  go_wp2
  go_ret
  exact ⟨rfl, rfl⟩

/-- as many words as there are, each by its letter -/
def readPre : L8 → List L8 → Op8 → Option Op8
  | _, [], x => some x
  | c :: cs, w :: ws, x => (readS x c w).bind (readPre cs ws)
  | [], _ :: _, _ => none
theorem readPre_nil (cs : L8) (x : Op8) : readPre cs [] x = some x := by cases cs <;> rfl
theorem readPre_snoc (w : L8) : ∀ (cs : L8) (ws : List L8) (x : Op8), readPre cs (ws ++ [w]) x = (readPre cs ws x).bind fun y => match cs[ws.length]? with | some c => readS y c w | none => none := by
  intro cs
  induction cs with
  | nil =>
    intro ws x
    cases ws with
    | nil => rfl
    | cons a r => rfl
  | cons c cs ih =>
    intro ws x
    cases ws with
    | nil =>
      show (readS x c w).bind (readPre cs []) = (some x).bind fun y => readS y c w
      rw [Option.bind_some]
      cases readS x c w with
      | none => rfl
      | some z => exact readPre_nil cs z
    | cons a r =>
      show (readS x c a).bind (readPre cs (r ++ [w])) = ((readS x c a).bind (readPre cs r)).bind _
      cases readS x c a with
      | none => rfl
      | some z =>
        rw [Option.bind_some, Option.bind_some, ih r z]
        rfl
theorem readAll_pre : ∀ (cs : L8) (ws : List L8) (x : Op8), readAll cs ws x = if ws.length = cs.length then readPre cs ws x else none := by
  intro cs
  induction cs with
  | nil =>
    intro ws x
    cases ws with
    | nil => rfl
    | cons a r => rfl
  | cons c cs ih =>
    intro ws x
    cases ws with
    | nil => rfl
    | cons a r =>
      rw [readAll]
      by_cases h : r.length = cs.length
      · rw [if_pos (by simpa using h), readPre]
        cases readS x c a with
        | none => rfl
        | some z => rw [Option.bind_some, Option.bind_some, ih, if_pos h]
      · rw [if_neg (by simpa using h)]
        cases readS x c a with
        | none => rfl
        | some z => rw [Option.bind_some, ih, if_neg h]
/-- more words than letters: none -/
theorem readPre_long {cs : L8} {ws : List L8} {x : Op8} (h : cs.length < ws.length) : readPre cs ws x = none := by
  induction cs generalizing ws x with
  | nil =>
    cases ws with
    | nil => simp at h
    | cons a r => rfl
  | cons c cs ih =>
    cases ws with
    | nil => simp at h
    | cons a r =>
      rw [readPre]
      cases readS x c a with
      | none => rfl
      | some z => exact ih (by simpa using h)
/-- words that went wrong at the front are wrong -/
theorem readPre_stop {cs : L8} {ws : List L8} (t : List L8) {x : Op8} (h : readPre cs ws x = none) : readPre cs (ws ++ t) x = none := by
  induction cs generalizing ws x with
  | nil =>
    cases ws with
    | nil => cases h
    | cons a r => rfl
  | cons c cs ih =>
    cases ws with
    | nil => cases h
    | cons a r =>
      rw [readPre] at h
      rw [List.cons_append, readPre]
      cases e : readS x c a with
      | none => rfl
      | some z =>
        rw [e, Option.bind_some] at h
        exact ih h
end Go.Proofs.YtkmnmigpnbehaaaDoor
