/- Plain laws of MarkupWords and MarkupMarks. -/
import Derived.Test.YtgbfekimflnaiaaDoorMkQ
namespace Go.Proofs.YtgbfekimflnaiaaDoor
open Go.RowKit Go.Lib

theorem words_blanks (n : Nat) (x : L8) : wordsL (List.replicate n 32 ++ x) = wordsL x := by
  induction n with
  | zero => rfl
  | succ n ih =>
    have := wordsL_app [] (List.replicate n 32 ++ x)
    rw [List.nil_append, ih] at this
    rw [List.replicate_succ, List.cons_append, this]; rfl
theorem words_more (a x : L8) (n : Nat) : wordsL (a ++ List.replicate (n + 1) 32 ++ x) = wordsL a ++ wordsL x := by
  rw [List.append_assoc, List.replicate_succ, List.cons_append, wordsL_app, words_blanks]
theorem words_end (a : L8) : wordsL (a ++ [32, 32]) = wordsL a := by
  have := words_more a [] 1
  simpa [List.replicate, wordsL_nil] using this

/-- signs from 20 to 7e alone -/
def tameL (l : L8) : Prop := ∀ b ∈ l, 32 ≤ b.toNat ∧ b.toNat ≤ 126
instance (l : L8) : Decidable (tameL l) := by unfold tameL; infer_instance
theorem tame_app {a b : L8} (ha : tameL a) (hb : tameL b) : tameL (a ++ b) := fun x hx => (List.mem_append.1 hx).elim (ha x) (hb x)
theorem low_valid : ∀ {l : L8}, (∀ b ∈ l, b.toNat < 128) → validD l = true := by
  intro l h
  refine (valid_iff l).2 ⟨l.map fun b => (b.toNat : Int), fun x hx => ?_, ?_⟩
  · obtain ⟨b, hb, rfl⟩ := List.mem_map.1 hx
    have := h b hb
    unfold okv; omega
  · induction l with
    | nil => rfl
    | cons b r ih =>
      have hb := h b List.mem_cons_self
      have hk : okv (b.toNat : Int) := by unfold okv; omega
      rw [List.map_cons, txt_cons, ← ih fun x hx => h x (List.mem_cons_of_mem _ hx)]
      rcases enc_kind hk with ⟨-, g⟩ | ⟨g, -⟩
      · rw [g]; simp
      · omega
theorem tame_nl {l : L8} (h : tameL l) : (10 : UInt8) ∉ l := fun hm => by have := (h 10 hm).1; simp at this
theorem step_w (a : L8) (out : List P8) : stepP (119 :: 32 :: a) (out, false) = some (out ++ [(1, [119] :: wordsL a)], true) := by
  unfold stepP
  rw [wordsL_mark _ (by decide)]
  simp
theorem step_w2 (a : L8) (out : List P8) (k : Int) (ws : List L8) : stepP (119 :: 32 :: a) (out ++ [(k, ws)], true) = some (out ++ [(k, ws ++ [119] :: wordsL a)], true) := by
  unfold stepP
  rw [wordsL_mark _ (by decide)]
  simp [addLast_snoc]
theorem step_eq (a : L8) (h : wordsL a ≠ []) (st : PSt) : stepP (61 :: 32 :: a) st = some (st.1 ++ [(2, wordsL a)], false) := by
  unfold stepP; simp [h]
theorem step_mi (a : L8) (h : wordsL a ≠ []) (st : PSt) : stepP (45 :: 32 :: a) st = some (st.1 ++ [(3, wordsL a)], false) := by
  unfold stepP; simp [h]
theorem step_ej (st : PSt) : stepP [45, 45, 45] st = some (st.1 ++ [(4, [])], false) := by
  unfold stepP; simp
/-- MarkupMarks' source -/
def marksL (a b c : L8) : L8 := [119, 32] ++ a ++ [10, 119, 32] ++ b ++ [10, 61, 32] ++ c ++ [10, 119, 32] ++ a ++ [10, 45, 32] ++ b ++ [10, 45, 45, 45, 10, 119, 32] ++ c
theorem marks_cut {a b c : L8} (ha : tameL a) (hb : tameL b) (hc : tameL c) : cutB 10 (marksL a b c) = [119 :: 32 :: a, 119 :: 32 :: b, 61 :: 32 :: c, 119 :: 32 :: a, 45 :: 32 :: b, [45, 45, 45], 119 :: 32 :: c] := by
  have na := tame_nl ha
  have nb := tame_nl hb
  have nc := tame_nl hc
  have e : marksL a b c = (119 :: 32 :: a) ++ 10 :: ((119 :: 32 :: b) ++ 10 :: ((61 :: 32 :: c) ++ 10 :: ((119 :: 32 :: a) ++ 10 :: ((45 :: 32 :: b) ++ 10 :: ([45, 45, 45] ++ 10 :: (119 :: 32 :: c)))))) := by
    simp [marksL]
  rw [e, cutB_hit _ (by simp [na]), cutB_hit _ (by simp [nb]), cutB_hit _ (by simp [nc]), cutB_hit _ (by simp [na]), cutB_hit _ (by simp [nb]), cutB_hit _ (by simp), cutB_none (by simp [nc])]
theorem marks_parse {a b c : L8} (ha : tameL a) (hb : tameL b) (hc : tameL c) (h2 : wordsL b ≠ []) (h3 : wordsL c ≠ []) :
    parseL (marksL a b c) = some [(1, [119] :: wordsL a ++ [119] :: wordsL b), (2, wordsL c), (1, [119] :: wordsL a), (3, wordsL b), (4, []), (1, [119] :: wordsL c)] := by
  unfold parseL
  rw [marks_cut ha hb hc]
  simp only [foldP]
  rw [step_w]
  simp only [Option.bind_some]
  rw [step_w2, Option.bind_some, step_eq _ h3, Option.bind_some, step_w, Option.bind_some, step_mi _ h2, Option.bind_some, step_ej, Option.bind_some, step_w]
  simp
theorem marks_plain {a b c : L8} (ha : tameL a) (hb : tameL b) (hc : tameL c) : plainB 10 (marksL a b c) := by
  have key : ∀ x ∈ marksL a b c, x = 10 ∨ (32 ≤ x.toNat ∧ x.toNat ≤ 126) := by
    intro x hx
    unfold marksL at hx
    simp only [List.mem_append, List.mem_cons, List.not_mem_nil, or_false] at hx
    rcases hx with ((((((((((h | h) | h) | h) | h) | h) | h) | h) | h) | h) | h) | h
    all_goals first
      | exact .inr (ha x h)
      | exact .inr (hb x h)
      | exact .inr (hc x h)
      | (rcases h with rfl | rfl | rfl | rfl | rfl | rfl | rfl <;> first | exact .inl rfl | exact .inr (by decide))
      | (rcases h with rfl | rfl | rfl <;> first | exact .inl rfl | exact .inr (by decide))
      | (rcases h with rfl | rfl <;> first | exact .inl rfl | exact .inr (by decide))
  refine ⟨low_valid fun x hx => ?_, fun x hx => ?_⟩
  · rcases key x hx with rfl | h
    · decide
    · omega
  · rcases key x hx with rfl | h
    · left; rfl
    · right; omega
theorem marks_len (a b c : L8) : (marksL a b c).length = 2 * (a.length + b.length + c.length) + 21 := by
  simp [marksL]; omega
end Go.Proofs.YtgbfekimflnaiaaDoor
