/- Plain laws of markup: which texts may be; a source's parts are the parts of which it is. -/
import Derived.Test.YtgbfekimflnaiaaDoorMkP
namespace Go.Proofs.YtgbfekimflnaiaaDoor
open Go.RowKit Go.Lib

/-- signs that may be -/
def clean (but : Int) (s : L8) : Prop := ∀ b ∈ s, (b.toNat : Int) = but ∨ ¬ ((b.toNat : Int) < 32 ∨ (b.toNat : Int) = 127)
def plainB (but : Int) (s : L8) : Prop := validD s = true ∧ clean but s
instance (but : Int) (s : L8) : Decidable (clean but s) := by unfold clean; infer_instance
instance (but : Int) (s : L8) : Decidable (plainB but s) := by unfold plainB; infer_instance
theorem clean_app {but : Int} {a b : L8} : clean but (a ++ b) ↔ clean but a ∧ clean but b := by
  unfold clean
  constructor
  · intro h; exact ⟨fun x hx => h x (List.mem_append_left _ hx), fun x hx => h x (List.mem_append_right _ hx)⟩
  · rintro ⟨h1, h2⟩ x hx
    rcases List.mem_append.1 hx with h | h
    · exact h1 x h
    · exact h2 x h
theorem valid_txt_app {a b : L8} (ha : validD a = true) (hb : validD b = true) : validD (a ++ b) = true := by
  obtain ⟨xs, h1, rfl⟩ := (valid_iff a).1 ha
  obtain ⟨ys, h2, rfl⟩ := (valid_iff b).1 hb
  exact (valid_iff _).2 ⟨xs ++ ys, fun x hx => (List.mem_append.1 hx).elim (h1 x) (h2 x), (txt_append xs ys).symm⟩
theorem plain_app {but : Int} {a b : L8} (ha : plainB but a) (hb : plainB but b) : plainB but (a ++ b) := ⟨valid_txt_app ha.1 hb.1, clean_app.2 ⟨ha.2, hb.2⟩⟩
theorem enc_map (v : Int) : encodeRune v = (encodeRuneZ v).map fun z => z.toNat.toUInt8 := rfl
theorem enc_kind {v : Int} (h : okv v) : (v ≤ 127 ∧ encodeRune v = [v.toNat.toUInt8]) ∨ (128 ≤ v ∧ ∀ b ∈ encodeRune v, 128 ≤ b.toNat) := by
  have h0 := h.1
  have h1 := h.2.1
  rw [enc_map]
  rcases encZ_cases h with ⟨h2, e⟩ | ⟨h2, h3, e⟩ | ⟨h2, h3, e⟩ | ⟨h2, e⟩
  · left; exact ⟨h2, by rw [e]; rfl⟩
  all_goals
    right
    refine ⟨by omega, fun b hb => ?_⟩
    rw [e] at hb
    simp only [List.map_cons, List.map_nil, List.mem_cons, List.not_mem_nil, or_false] at hb
  · rcases hb with rfl | rfl
    · rw [b8 (by omega) (by omega)]; omega
    · rw [b8 (by omega) (by omega)]; omega
  · rcases hb with rfl | rfl | rfl
    · rw [b8 (by omega) (by omega)]; omega
    · rw [b8 (by omega) (by omega)]; omega
    · rw [b8 (by omega) (by omega)]; omega
  · rcases hb with rfl | rfl | rfl | rfl
    · rw [b8 (by omega) (by omega)]; omega
    · rw [b8 (by omega) (by omega)]; omega
    · rw [b8 (by omega) (by omega)]; omega
    · rw [b8 (by omega) (by omega)]; omega
/-- a sign that may be: its bytes may be -/
def okS (but x : Int) : Prop := x = but ∨ ¬ (x < 32 ∨ x = 127)
instance (but x : Int) : Decidable (okS but x) := by unfold okS; infer_instance
theorem clean_enc {but v : Int} (h : okv v) (hb : but ≤ 127) : clean but (encodeRune v) ↔ okS but v := by
  have h0 := h.1
  rcases enc_kind h with ⟨h1, e⟩ | ⟨h1, h2⟩
  · rw [e]
    have e2 : ((v.toNat.toUInt8).toNat : Int) = v := by rw [b8 h0 (by omega)]; omega
    constructor
    · intro h
      have := h _ (List.mem_singleton.2 rfl)
      rw [e2] at this
      exact this
    · intro h b hb
      rw [List.mem_singleton.1 hb, e2]
      exact h
  · constructor
    · intro _; right; omega
    · intro _ b hbm; have := h2 b hbm; right; omega
theorem clean_txt {but : Int} (hb : but ≤ 127) : ∀ {xs : List Int}, (∀ x ∈ xs, okv x) → (clean but (txt xs) ↔ ∀ x ∈ xs, okS but x) := by
  intro xs
  induction xs with
  | nil => intro _; simp [txt, clean]
  | cons x r ih =>
    intro h
    rw [txt_cons, clean_app, clean_enc (h x List.mem_cons_self) hb, ih fun y hy => h y (List.mem_cons_of_mem _ hy)]
    simp
/-- a text that is cut at a sign below 128 -/
theorem txt_cut {c : UInt8} (hc : c.toNat < 128) : ∀ {xs : List Int} {a b : L8}, (∀ x ∈ xs, okv x) → txt xs = a ++ c :: b → ∃ ys zs, (∀ x ∈ ys, okv x) ∧ (∀ x ∈ zs, okv x) ∧ a = txt ys ∧ b = txt zs := by
  intro xs
  induction xs with
  | nil => intro a b _ h; simp [txt] at h
  | cons x r ih =>
    intro a b h e
    have hx := h x List.mem_cons_self
    have hr : ∀ y ∈ r, okv y := fun y hy => h y (List.mem_cons_of_mem _ hy)
    rw [txt_cons] at e
    have key : ∀ a', txt r = a' ++ c :: b → a = encodeRune x ++ a' → ∃ ys zs, (∀ x ∈ ys, okv x) ∧ (∀ x ∈ zs, okv x) ∧ a = txt ys ∧ b = txt zs := by
      intro a' h1 h2
      obtain ⟨ys, zs, g1, g2, g3, g4⟩ := ih hr h1
      refine ⟨x :: ys, zs, fun y hy => ?_, g2, by rw [txt_cons, h2, g3], g4⟩
      rcases List.mem_cons.1 hy with rfl | hy
      · exact hx
      · exact g1 y hy
    rcases List.append_eq_append_iff.1 e with ⟨a2, h1, h2⟩ | ⟨bs, h1, h2⟩
    · exact key a2 h2 h1
    · cases bs with
      | nil => simp at h1 h2; exact key [] (by simpa using h2.symm) (by simpa using h1.symm)
      | cons y ys =>
        rw [List.cons_append] at h2
        have e1 : c = y := (List.cons.inj h2).1
        have e2 : b = ys ++ txt r := (List.cons.inj h2).2
        rcases enc_kind hx with ⟨-, g⟩ | ⟨-, g⟩
        · rw [g] at h1
          cases a with
          | nil =>
            have : ys = [] := by simpa using (List.cons.inj h1).2.symm
            exact ⟨[], r, by simp, hr, rfl, by rw [e2, this]; rfl⟩
          | cons z a => simp at h1
        · have := g y (by rw [h1]; simp)
          rw [← e1] at this
          omega
theorem valid_cut {c : UInt8} (hc : c.toNat < 128) (a b : L8) : validD (a ++ c :: b) = true ↔ validD a = true ∧ validD b = true := by
  constructor
  · intro h
    obtain ⟨xs, h1, h2⟩ := (valid_iff _).1 h
    obtain ⟨ys, zs, g1, g2, g3, g4⟩ := txt_cut hc h1 h2.symm
    exact ⟨(valid_iff _).2 ⟨ys, g1, g3⟩, (valid_iff _).2 ⟨zs, g2, g4⟩⟩
  · rintro ⟨h1, h2⟩
    refine valid_txt_app h1 ?_
    have : validD [c] = true := (valid_iff _).2 ⟨[(c.toNat : Int)], by
      intro x hx; rw [List.mem_singleton.1 hx]; unfold okv; omega, by
      have hk : okv (c.toNat : Int) := by unfold okv; omega
      rcases enc_kind hk with ⟨-, g⟩ | ⟨g, -⟩
      · rw [txt_cons, g]; simp [txt]
      · omega⟩
    exact valid_txt_app this h2
theorem plain_gap (s t : L8) : plainB 10 (s ++ 10 :: 10 :: t) ↔ plainB 10 s ∧ plainB 10 t := by
  unfold plainB
  rw [valid_cut (by decide), show (10 : UInt8) :: t = [] ++ 10 :: t from rfl, valid_cut (by decide)]
  have e1 : validD ([] : L8) = true := by decide +kernel
  have e2 : clean 10 (s ++ 10 :: ([] ++ 10 :: t)) ↔ clean 10 s ∧ clean 10 t := by
    rw [clean_app]
    have : clean 10 (10 :: ([] ++ 10 :: t)) ↔ clean 10 t := by
      unfold clean; simp
    rw [this]
  rw [e2]
  constructor
  · rintro ⟨⟨h1, -, h2⟩, h3, h4⟩; exact ⟨⟨h1, h3⟩, h2, h4⟩
  · rintro ⟨⟨h1, h3⟩, h2, h4⟩; exact ⟨⟨h1, e1, h2⟩, h3, h4⟩

/-- words that may be -/
def goodW (w : L8) : Prop := w ≠ [] ∧ plainB 33 w ∧ (32 : UInt8) ∉ w
/-- parts that may be -/
def goodP (p : P8) : Prop := (∀ w ∈ p.2, goodW w) ∧ ((p.1 = 4 ∧ p.2 = []) ∨ ((p.1 = 2 ∨ p.1 = 3) ∧ p.2 ≠ []) ∨ (p.1 = 1 ∧ p.2 ≠ [] ∧ p.2 ≠ [[45, 45, 45]] ∧ (2 ≤ p.2.length → p.2.headD [] ≠ [61] ∧ p.2.headD [] ≠ [45])))
instance (w : L8) : Decidable (goodW w) := by unfold goodW; infer_instance
instance (p : P8) : Decidable (goodP p) := by unfold goodP; infer_instance
theorem clean_word {w : L8} (h : clean 33 w) : (10 : UInt8) ∉ w := fun hm => by
  have := h 10 hm
  simp at this

theorem line_text {ws : List L8} (hw : ∀ w ∈ ws, goodW w) (hne : ws ≠ []) (h1 : ws ≠ [[45, 45, 45]]) (h2 : 2 ≤ ws.length → ws.headD [] ≠ [61] ∧ ws.headD [] ≠ [45]) :
    (joinB [32] ws).take 2 ≠ [61, 32] ∧ (joinB [32] ws).take 2 ≠ [45, 32] ∧ joinB [32] ws ≠ [45, 45, 45] := by
  cases ws with
  | nil => exact absurd rfl hne
  | cons x r =>
    have hx := hw x List.mem_cons_self
    cases r with
    | nil =>
      refine ⟨fun h => ?_, fun h => ?_, fun h => h1 (by rw [show x = [45, 45, 45] from h])⟩
      · have := hx.2.2
        have e : x = 61 :: 32 :: x.drop 2 := take2 h
        rw [e] at this; simp at this
      · have := hx.2.2
        have e : x = 45 :: 32 :: x.drop 2 := take2 h
        rw [e] at this; simp at this
    | cons y r =>
      obtain ⟨g1, g2⟩ := h2 (by simp)
      simp only [List.headD_cons] at g1 g2
      rw [joinB_cons _ _ (by simp)]
      obtain ⟨x0, -, x32⟩ := hx
      cases x with
      | nil => exact absurd rfl x0
      | cons a x =>
        cases x with
        | nil =>
          simp only [List.singleton_append, List.cons_append, List.nil_append, List.take_succ_cons, List.take_zero]
          refine ⟨fun h => g1 (by rw [(List.cons.inj h).1]), fun h => g2 (by rw [(List.cons.inj h).1]), fun h => ?_⟩
          have := (List.cons.inj (List.cons.inj h).2).1
          simp at this
        | cons b x =>
          simp only [List.cons_append, List.take_succ_cons, List.take_zero]
          have hb : b ≠ 32 := by rintro rfl; simp at x32
          refine ⟨fun h => hb (List.cons.inj (List.cons.inj h).2).1, fun h => hb (List.cons.inj (List.cons.inj h).2).1, fun h => ?_⟩
          have hm : (32 : UInt8) ∈ ([45, 45, 45] : L8) := by rw [← h]; simp
          simp at hm
theorem step_line {p : P8} (h : goodP p) (out : List P8) : ∃ op, stepP (lineP p) (out, false) = some (out ++ [p], op) := by
  obtain ⟨k, ws⟩ := p
  obtain ⟨hw, hk⟩ := h
  dsimp only at hw hk
  have hwj := words_join ws fun w h => ⟨(hw w h).1, (hw w h).2.2⟩
  rcases hk with ⟨rfl, rfl⟩ | ⟨rfl | rfl, hne⟩ | ⟨rfl, hne, h1, h2⟩
  · exact ⟨false, by simp [stepP, lineP]⟩
  · refine ⟨false, ?_⟩
    simp [stepP, lineP, hwj, hne]
  · refine ⟨false, ?_⟩
    simp [stepP, lineP, hwj, hne]
  · refine ⟨true, ?_⟩
    obtain ⟨g1, g2, g3⟩ := line_text hw hne h1 h2
    unfold stepP
    simp only [lineP, Int.reduceEq, if_false]
    rw [if_neg g1, if_neg g2, if_neg g3, hwj, if_neg hne]
    simp
theorem line_nl {p : P8} (h : goodP p) : (10 : UInt8) ∉ lineP p := by
  obtain ⟨k, ws⟩ := p
  have hj : (10 : UInt8) ∉ joinB [32] ws := fun hm => by
    rcases join_mem hm with h1 | ⟨w, hw, h1⟩
    · simp at h1
    · exact clean_word (h.1 w hw).2.1.2 h1
  unfold lineP
  split
  · simp [hj]
  · split
    · simp [hj]
    · split
      · simp
      · exact hj
theorem fold_source : ∀ (l : List P8) (out : List P8), (∀ p ∈ l, goodP p) → ∃ op, foldP (cutB 10 (sourceL l)) (out, false) = some (out ++ l, op) := by
  intro l
  induction l with
  | nil =>
    intro out _
    refine ⟨false, ?_⟩
    show foldP (cutB 10 []) _ = _
    simp [cutB, foldP, stepP_nil]
  | cons p r ih =>
    intro out h
    obtain ⟨op, e⟩ := step_line (h p List.mem_cons_self) out
    have hn := line_nl (h p List.mem_cons_self)
    cases r with
    | nil =>
      refine ⟨op, ?_⟩
      show foldP (cutB 10 (lineP p)) _ = _
      rw [cutB_none hn, foldP, e]; rfl
    | cons q r =>
      obtain ⟨o2, e2⟩ := ih (out ++ [p]) fun x hx => h x (List.mem_cons_of_mem _ hx)
      refine ⟨o2, ?_⟩
      have es : sourceL (p :: q :: r) = lineP p ++ 10 :: 10 :: sourceL (q :: r) := by
        unfold sourceL
        rw [List.map_cons, joinB_cons _ _ (by simp)]
        simp
      have h1 : cutB 10 (10 :: sourceL (q :: r)) = [] :: cutB 10 (sourceL (q :: r)) := by rw [cutB, if_pos rfl]
      rw [es, cutB_hit _ hn, h1, foldP, e]
      show foldP ([] :: _) (out ++ [p], op) = _
      rw [foldP, stepP_nil]
      show foldP _ (out ++ [p], false) = _
      rw [e2]; simp
theorem parse_source {l : List P8} (h : ∀ p ∈ l, goodP p) : parseL (sourceL l) = some l := by
  obtain ⟨op, e⟩ := fold_source l [] h
  unfold parseL
  rw [e]; rfl
theorem clean_up {w : L8} (h : clean 33 w) : clean 10 w := fun b hb => by
  rcases h b hb with h | h
  · right; omega
  · exact .inr h
theorem plain_join {sep : L8} (hs : plainB 10 sep) : ∀ {ws : List L8}, (∀ w ∈ ws, plainB 10 w) → plainB 10 (joinB sep ws) := by
  intro ws
  induction ws with
  | nil => intro _; show plainB 10 []; exact ⟨by decide +kernel, fun b hb => by cases hb⟩
  | cons x r ih =>
    intro h
    cases r with
    | nil => exact h x List.mem_cons_self
    | cons y r =>
      rw [joinB_cons _ _ (by simp)]
      exact plain_app (plain_app (h x List.mem_cons_self) hs) (ih fun w hw => h w (List.mem_cons_of_mem _ hw))
theorem plain_source {l : List P8} (h : ∀ p ∈ l, goodP p) : plainB 10 (sourceL l) := by
  unfold sourceL
  refine plain_join (by decide +kernel) fun w hw => ?_
  obtain ⟨p, hp, rfl⟩ := List.mem_map.1 hw
  obtain ⟨k, ws⟩ := p
  have hj : plainB 10 (joinB [32] ws) := plain_join (by decide +kernel) fun w hw => ⟨((h _ hp).1 w hw).2.1.1, clean_up ((h _ hp).1 w hw).2.1.2⟩
  unfold lineP
  split
  · exact plain_app (by decide +kernel) hj
  · split
    · exact plain_app (by decide +kernel) hj
    · split
      · decide +kernel
      · exact hj
end Go.Proofs.YtgbfekimflnaiaaDoor
