/- Ranges over a function, where the iterator knows that a stopping round keeps its blocks too: for iterators that range over another one (by gen_rangez.py). -/
import Derived.Test.YtjkfefjfmocekaaDoorRangeY
namespace Go.Proofs.YtjkfefjfmocekaaDoor
open Go.RowKit
/-- the iterator's word: each thing that it hands out comes with 'Adm'; R: what it reads -/
def SeqY {α : Type} (P : Program) (N : TypeId → Bool) (gf : Nat) (lb : Array Value) (encs : α → Array Value) (R : World → Prop) (Adm : List α → α → World → Prop) (S Sp : List α → World → Prop) : Prop :=
  ∀ (l : Nat) (J Jx : List α → World → Prop) (W : World), (∀ s, StX N W.heap.size (J s)) → (∀ s, StX N W.heap.size (Jx s)) →
    (∀ pre x W1, J pre W1 → R W1 → Adm pre x W1 → YieldAt Fence.wide 0 P l (encs x) W1 fun e W' =>
      (e = .returned (.bool true) ∧ J (pre ++ [x]) W' ∧ R W' ∧ KeepsX N W.heap.size W1 W') ∨ (e = .returned (.bool false) ∧ Jx (pre ++ [x]) W' ∧ KeepsX N W.heap.size W1 W')) →
    J [] W → R W →
    Calls P gf (#[.func (.yield l) #[] #[]] ++ lb) W fun e W' => (∃ v, e = .returned v) ∧ ((∃ xs, S xs W' ∧ J xs W' ∧ R W') ∨ (∃ pre, Sp pre W' ∧ Jx pre W'))

theorem SeqX.y {α : Type} {P : Program} {N : TypeId → Bool} {gf : Nat} {lb : Array Value} {encs : α → Array Value} {R : World → Prop} {Adm : List α → α → World → Prop} {S Sp : List α → World → Prop} (h : SeqX P N gf lb encs R Adm S Sp) : SeqY P N gf lb encs R Adm S Sp :=
  fun l J Jx W h1 h2 h3 => h l J Jx W h1 h2 (fun pre x W1 a b c => let ⟨f, t, g1, bo, hy, hr⟩ := h3 pre x W1 a b c; ⟨f, t, g1, bo, hy, hr.mono (fun _ _ hq => hq.imp id (fun ⟨e, j, _⟩ => ⟨e, j⟩))⟩)
section
variable {P : Program} {N : TypeId → Bool} {α : Type} {g : Operand} {ps : Array Tmp} {assign body : Code} {Q : Exit → Act → World → Prop} {a : Act} {w : World} {gf : Nat} {lb : Array Value}
  {encs : α → Array Value} {Adm : List α → α → World → Prop} {S Sp : List α → World → Prop} {R : World → Prop}

/-- one round, its record at l, whatever book-keeping block lies at D -/
theorem round_lawY {F : Fence} (hF : ∀ f, F.fn f) {l : Nat} {rec : LoopState → Option Code → Loop} {fn : FuncId} {B B' : Nat} (hl1 : B ≤ l) (hlB : l < B') {X : World → Prop} (hX : ∀ A C, KeepsX N B A C → X A → X C) (hX2 : ∀ A o, X A → X (A.putObj l o))
    (hrec : ∀ st pe, rec st pe = { state := st, pending := pe, fn := fn, tmps := a.tmps, params := ps, assign := assign, body := body, defers := (rec .ready none).defers })
    (hps : ∀ x, (encs x).size = ps.size) (I : List α → World → Prop) (Ix : Code → List α → World → Prop)
    (hI : ∀ s, StX N B (I s)) (hIx : ∀ c s, StX N B (Ix c s)) (hR : St B R) (hAdm : ∀ pre x, St B (Adm pre x)) (Ax : α → Act → World → Prop) (hAx : ∀ x a', St B (Ax x a'))
    (hassign : ∀ (pre : List α) (x : α) (W : World) (K : Act → World → Prop), I pre W → R W → Adm pre x W → (∀ a' W', KeepsX N B W W' → R W' → I pre W' → Adm pre x W' → Ax x a' W' → K a' W') →
      assign.wpIn (F.inRound l) 0 P (Exit.then K (fun _ _ _ => False)) { tmps := (ps.zip (encs x)).foldl (fun t (p, v) => t.setIfInBounds p v) a.tmps, defers := [] } W)
    (hbody : ∀ (pre : List α) (x : α) (a' : Act) (W : World), (∃ r, W.heap[l]? = some (.loop r)) → I pre W → R W → Adm pre x W → Ax x a' W → body.wpIn (F.inRound l) 0 P (rpostX N B R I Ix (pre ++ [x]) W) a' W)
    (pre : List α) (x : α) (W : World) (hi : I pre W) (hr : R W) (hl : W.heap[l]? = some (.loop (rec .ready none))) (hk : X W) (ha : Adm pre x W) :
    YieldAt F 0 P l (encs x) W fun e W' =>
      (e = .returned (.bool true) ∧ (I (pre ++ [x]) W' ∧ W'.heap[l]? = some (.loop (rec .ready none)) ∧ X W') ∧ R W' ∧ KeepsX N B' W W') ∨
      (e = .returned (.bool false) ∧ (∃ c, Ix c (pre ++ [x]) W' ∧ W'.heap[l]? = some (.loop (rec .done (some c))) ∧ X W') ∧ KeepsX N B' W W') := by
  have hy := run_yield (P := P) (args := encs x) hl (by rw [hrec]; exact hps x)
  rw [hrec] at hy
  refine ⟨fn, _, assign, body, hy, roundIn_of_wpIn (hF _) (hassign pre x W _ hi hr ha ?_)⟩
  intro a' Wa hkf hra hia hada hax
  have hla := hkf.same _ _ hl1 hl (.inl rfl)
  have hka := hX _ _ hkf hk
  have hlt : l < Wa.heap.size := (Array.getElem?_eq_some_iff.1 hla).1
  refine ⟨_, run_beginRound hla (by rw [hrec]), ?_⟩
  have kp : Kept B Wa (Wa.putObj l (.loop { rec .ready none with state := .busy })) := Kept.putObj _ hl1 hla rfl
  have hl2 : (Wa.putObj l (.loop { rec .ready none with state := .busy })).heap[l]? = some (.loop { rec .ready none with state := .busy }) := World.putObj_heap_same hlt
  have hk2 := hX2 _ (.loop { rec .ready none with state := .busy }) hka
  refine wpIn_mono (hbody pre x a' _ ⟨_, hl2⟩ (hI _ _ _ kp.x hia) (hR _ _ kp hra) (hAdm _ _ _ _ kp hada) (hAx _ _ _ _ kp hax)) ?_
  have fin : ∀ (jump : Option Code) (W3 : World), KeepsX N B (Wa.putObj l (.loop { rec .ready none with state := .busy })) W3 →
      (Instr.endRound l jump).run P W3 = .ok (.bool jump.isNone) (W3.putObj l (.loop (rec (if jump.isNone then .ready else .done) jump))) ∧
      Kept B W3 (W3.putObj l (.loop (rec (if jump.isNone then .ready else .done) jump))) ∧
      (W3.putObj l (.loop (rec (if jump.isNone then .ready else .done) jump))).heap[l]? = some (.loop (rec (if jump.isNone then .ready else .done) jump)) ∧
      X (W3.putObj l (.loop (rec (if jump.isNone then .ready else .done) jump))) := fun jump W3 hk3 => by
    have hl3 := hk3.same _ _ hl1 hl2 (.inl rfl)
    have := run_endRound (P := P) jump hl3
    rw [hrec] at this
    rw [hrec (if jump.isNone then .ready else .done) jump]
    refine ⟨this, Kept.putObj _ hl1 hl3 rfl, World.putObj_heap_same (Array.getElem?_eq_some_iff.1 hl3).1, hX2 _ _ (hX _ _ hk3 hk2)⟩
  rintro e a3 W3 hp
  cases e with
  | normal =>
    obtain ⟨hk3, hr3, hi3⟩ := hp
    obtain ⟨h1, h2, h3, h4⟩ := fin none W3 hk3
    exact ⟨_, _, h1, .inl ⟨rfl, ⟨hI _ _ _ h2.x hi3, h3, h4⟩, hR _ _ h2 hr3, (hkf.mono (by omega)).trans ((keepsX_putObj _ _ hlB).trans ((hk3.mono (by omega)).trans (keepsX_putObj _ _ hlB)))⟩⟩
  | ret =>
    obtain ⟨hk3, hi3⟩ := hp
    obtain ⟨h1, h2, h3, h4⟩ := fin (some .ret) W3 hk3
    exact ⟨_, _, h1, .inr ⟨rfl, ⟨.ret, hIx _ _ _ _ h2.x hi3, h3, h4⟩, (hkf.mono (by omega)).trans ((keepsX_putObj _ _ hlB).trans ((hk3.mono (by omega)).trans (keepsX_putObj _ _ hlB)))⟩⟩
  | exit id =>
    obtain ⟨hk3, hi3⟩ := hp
    obtain ⟨h1, h2, h3, h4⟩ := fin (some (.exit id)) W3 hk3
    exact ⟨_, _, h1, .inr ⟨rfl, ⟨.exit id, hIx _ _ _ _ h2.x hi3, h3, h4⟩, (hkf.mono (by omega)).trans ((keepsX_putObj _ _ hlB).trans ((hk3.mono (by omega)).trans (keepsX_putObj _ _ hlB)))⟩⟩
  | goto t =>
    obtain ⟨hk3, hi3⟩ := hp
    obtain ⟨h1, h2, h3, h4⟩ := fin (some (.goto t)) W3 hk3
    exact ⟨_, _, h1, .inr ⟨rfl, ⟨.goto t, hIx _ _ _ _ h2.x hi3, h3, h4⟩, (hkf.mono (by omega)).trans ((keepsX_putObj _ _ hlB).trans ((hk3.mono (by omega)).trans (keepsX_putObj _ _ hlB)))⟩⟩
  | panic ch => exact hp.elim
  | outgrown => exact hp.elim

/-- the statement, outside of every round -/
theorem range_lawY (hg : a.eval g = .func (.func gf) #[] lb) (eg : ∀ args w, (callFunc gf args).run P w = .ok (.enter gf args) w)
    (hseq : SeqY P N gf lb encs R Adm S Sp) (hps : ∀ x, (encs x).size = ps.size) (I : List α → World → Prop) (Ix : Code → List α → World → Prop)
    (hI : ∀ s, StX N w.heap.size (I s)) (hIx : ∀ c s, StX N w.heap.size (Ix c s)) (hR : St w.heap.size R) (hAdm : ∀ pre x, St w.heap.size (Adm pre x)) (h0 : I [] w) (hR0 : R w)
    (Ax : α → Act → World → Prop) (hAx : ∀ x a', St w.heap.size (Ax x a'))
    (hassign : ∀ (l : Nat) (pre : List α) (x : α) (W : World) (K : Act → World → Prop), I pre W → R W → Adm pre x W → (∀ a' W', KeepsX N w.heap.size W W' → R W' → I pre W' → Adm pre x W' → Ax x a' W' → K a' W') →
      assign.wpIn (Fence.wide.inRound l) 0 P (Exit.then K (fun _ _ _ => False)) { tmps := (ps.zip (encs x)).foldl (fun t (p, v) => t.setIfInBounds p v) a.tmps, defers := [] } W)
    (hbody : ∀ (l : Nat) (pre : List α) (x : α) (a' : Act) (W : World), w.heap.size ≤ l → (∃ r, W.heap[l]? = some (.loop r)) → I pre W → R W → Adm pre x W → Ax x a' W →
      body.wpIn (Fence.wide.inRound l) 0 P (rpostX N w.heap.size R I Ix (pre ++ [x]) W) a' W)
    (hdone : ∀ (D : Nat) (xs : List α) (W : World), w.heap.size ≤ D → S xs W → I xs W → R W → W.heap[D]? = some (.deferred (some [])) → Q .normal { a with defers := { target := .collected D, args := #[] } :: a.defers } W)
    (hstop : ∀ (D : Nat) (c : Code) (pre : List α) (W : World), w.heap.size ≤ D → Sp pre W → Ix c pre W → W.heap[D]? = some (.deferred (some [])) →
      c.wpIn Fence.wide 0 P Q { a with defers := { target := .collected D, args := #[] } :: a.defers } W)
    (hS : ∀ xs, St w.heap.size (S xs)) (hSp : ∀ xs, St w.heap.size (Sp xs)) :
    (Code.rangeFunc g ps assign body).wpIn Fence.wide 0 P Q a w := by
  refine wpIn_rangeFunc ?_
  intro fn hfn
  obtain ⟨rec, hrec⟩ : ∃ rec : LoopState → Option Code → Loop, rec = fun st pe => { state := st, pending := pe, fn, tmps := a.tmps, params := ps, assign, body, defers := w.heap.size } := ⟨_, rfl⟩
  obtain ⟨W1, hW1⟩ : ∃ W1, (w.alloc (.deferred (some []))).alloc (.loop (rec .ready none)) = W1 := ⟨_, rfl⟩
  have hL1 : W1.heap[w.heap.size + 1]? = some (.loop (rec .ready none)) := by
    rw [← hW1]; have := World.alloc_heap_new (w.alloc (.deferred (some []))) (.loop (rec .ready none)); rwa [World.size_alloc] at this
  have hK1 : W1.heap[w.heap.size]? = some (.deferred (some [])) := by
    rw [← hW1]; exact (Below.heap_alloc _ _ _ (by simp)).trans (World.alloc_heap_new w _)
  have k1 : Kept w.heap.size w W1 := by rw [← hW1]; exact (Kept.alloc _ _ _).trans (Kept.alloc _ _ _)
  refine ⟨w.heap.size + 1, [{ target := .collected w.heap.size, args := #[] }], W1, { target := .fn (.func gf) lb, args := #[.func (.yield (w.heap.size + 1)) #[] #[]] }, W1, gf,
    #[.func (.yield (w.heap.size + 1)) #[] #[]] ++ lb, W1, ?_, ?_, ?_, ?_, (fun h => (by cases h)), ?_⟩
  · rw [← hW1, hrec]; exact run_enterLoop_outer _ _ _ _ _
  · simp only [resolve, hg]
    simp [go_sem]
  · intro f' hf'; simp [Target.leads] at hf'; subst hf'; exact trivial
  · simp [invoke, go_sem, eg]
  · refine callsIn_wide.2 ((hseq (w.heap.size + 1)
      (fun pre W => I pre W ∧ W.heap[w.heap.size + 1]? = some (.loop (rec .ready none)) ∧ W.heap[w.heap.size]? = some (.deferred (some [])))
      (fun pre W => ∃ c, Ix c pre W ∧ W.heap[w.heap.size + 1]? = some (.loop (rec .done (some c))) ∧ W.heap[w.heap.size]? = some (.deferred (some [])))
      W1 ?_ ?_ ?_ ⟨hI _ _ _ k1.x h0, hL1, hK1⟩ (hR _ _ k1 hR0)).mono ?_)
    · rintro s A C hk ⟨h1, h2, h3⟩
      have hs : w.heap.size + 1 < W1.heap.size := (Array.getElem?_eq_some_iff.1 hL1).1
      exact ⟨hI _ _ _ (hk.mono (by omega)) h1, hk.same _ _ h2 (.inr hs), hk.same _ _ h3 (.inr (by omega))⟩
    · rintro s A C hk ⟨c, h1, h2, h3⟩
      have hs : w.heap.size + 1 < W1.heap.size := (Array.getElem?_eq_some_iff.1 hL1).1
      exact ⟨c, hIx _ _ _ _ (hk.mono (by omega)) h1, hk.same _ _ h2 (.inr hs), hk.same _ _ h3 (.inr (by omega))⟩
    · rintro pre x W ⟨hi, hl, hk⟩ hr ha
      have hs1 : w.heap.size + 1 < W1.heap.size := (Array.getElem?_eq_some_iff.1 hL1).1
      exact round_lawY (fun _ => trivial) (l := w.heap.size + 1) (B := w.heap.size) (by omega) hs1 (X := fun W => W.heap[w.heap.size]? = some (.deferred (some []))) (fun A C hk hx => hk.same _ _ (Nat.le_refl _) hx (.inl rfl)) (fun A o hx => (World.putObj_heap_other (by omega)).trans hx)
        (fun st pe => by rw [hrec]) hps I Ix hI hIx hR hAdm Ax hAx (hassign _) (fun pre x a' W => hbody _ pre x a' W (by omega)) pre x W hi hr hl hk ha
    · rintro e W2 ⟨⟨v, rfl⟩, (⟨xs, hS2, ⟨hi, hl, hk⟩, hr⟩ | ⟨pre, hSp2, c, hi, hl, hk⟩)⟩
      · have kp := Kept.putObj (B := w.heap.size) (.loop { rec .ready none with state := .exhausted }) (by omega) hl rfl
        exact ⟨none, _, by have := run_endLoop (P := P) hl (by rw [hrec]; simp); rw [hrec] at this ⊢; exact this, hdone _ xs _ (Nat.le_refl _) (hS _ _ _ kp hS2) (hI _ _ _ kp.x hi) (hR _ _ kp hr) ((World.putObj_heap_other (by omega)).trans hk)⟩
      · have kp := Kept.putObj (B := w.heap.size) (.loop { rec .done (some c) with state := .exhausted }) (by omega) hl rfl
        exact ⟨some c, _, by have := run_endLoop (P := P) hl (by rw [hrec]; simp); rw [hrec] at this ⊢; exact this, hstop _ c pre _ (Nat.le_refl _) (hSp _ _ _ kp hSp2) (hIx _ _ _ _ kp.x hi) ((World.putObj_heap_other (by omega)).trans hk)⟩

/-- the statement, in a round of the loop l₀ -/
theorem range_law_inY {l₀ : Nat} {r₀ : Loop} (hl₀ : w.heap[l₀]? = some (.loop r₀)) (hg : a.eval g = .func (.func gf) #[] lb) (eg : ∀ args w, (callFunc gf args).run P w = .ok (.enter gf args) w)
    (hseq : SeqY P N gf lb encs R Adm S Sp) (hps : ∀ x, (encs x).size = ps.size) (I : List α → World → Prop) (Ix : Code → List α → World → Prop)
    (hI : ∀ s, StX N w.heap.size (I s)) (hIx : ∀ c s, StX N w.heap.size (Ix c s)) (hR : St w.heap.size R) (hAdm : ∀ pre x, St w.heap.size (Adm pre x)) (h0 : I [] w) (hR0 : R w)
    (Ax : α → Act → World → Prop) (hAx : ∀ x a', St w.heap.size (Ax x a'))
    (hassign : ∀ (l : Nat) (pre : List α) (x : α) (W : World) (K : Act → World → Prop), I pre W → R W → Adm pre x W → (∀ a' W', KeepsX N w.heap.size W W' → R W' → I pre W' → Adm pre x W' → Ax x a' W' → K a' W') →
      assign.wpIn ((Fence.wide.inRound l₀).inRound l) 0 P (Exit.then K (fun _ _ _ => False)) { tmps := (ps.zip (encs x)).foldl (fun t (p, v) => t.setIfInBounds p v) a.tmps, defers := [] } W)
    (hbody : ∀ (l : Nat) (pre : List α) (x : α) (a' : Act) (W : World), w.heap.size ≤ l → (∃ r, W.heap[l]? = some (.loop r)) → I pre W → R W → Adm pre x W → Ax x a' W →
      body.wpIn ((Fence.wide.inRound l₀).inRound l) 0 P (rpostX N w.heap.size R I Ix (pre ++ [x]) W) a' W)
    (hdone : ∀ (xs : List α) (W : World), S xs W → I xs W → R W → Q .normal a W)
    (hstop : ∀ (c : Code) (pre : List α) (W : World), Sp pre W → Ix c pre W → c.wpIn (Fence.wide.inRound l₀) 0 P Q a W)
    (hS : ∀ xs, St w.heap.size (S xs)) (hSp : ∀ xs, St w.heap.size (Sp xs)) :
    (Code.rangeFunc g ps assign body).wpIn (Fence.wide.inRound l₀) 0 P Q a w := by
  refine wpIn_rangeFunc ?_
  intro fn hfn
  obtain ⟨rec, hrec⟩ : ∃ rec : LoopState → Option Code → Loop, rec = fun st pe => { state := st, pending := pe, fn, tmps := a.tmps, params := ps, assign, body, defers := r₀.defers } := ⟨_, rfl⟩
  obtain ⟨W1, hW1⟩ : ∃ W1, w.alloc (.loop (rec .ready none)) = W1 := ⟨_, rfl⟩
  have hL1 : W1.heap[w.heap.size]? = some (.loop (rec .ready none)) := by rw [← hW1]; exact World.alloc_heap_new w _
  have k1 : Kept w.heap.size w W1 := by rw [← hW1]; exact Kept.alloc _ _ _
  refine ⟨w.heap.size, [], W1, { target := .fn (.func gf) lb, args := #[.func (.yield w.heap.size) #[] #[]] }, W1, gf,
    #[.func (.yield w.heap.size) #[] #[]] ++ lb, W1, ?_, ?_, ?_, ?_, (fun h => (by cases h)), ?_⟩
  · rw [← hW1, hrec]; exact run_enterLoop_inner hl₀ _ _ _ _ _
  · simp only [resolve, hg]
    simp [go_sem]
  · intro f' hf'; simp [Target.leads] at hf'; subst hf'; exact trivial
  · simp [invoke, go_sem, eg]
  · refine CallsIn.inRound l₀ (callsIn_wide.2 ((hseq w.heap.size
      (fun pre W => I pre W ∧ W.heap[w.heap.size]? = some (.loop (rec .ready none)) ∧ True)
      (fun pre W => ∃ c, Ix c pre W ∧ W.heap[w.heap.size]? = some (.loop (rec .done (some c))) ∧ True)
      W1 ?_ ?_ ?_ ⟨hI _ _ _ k1.x h0, hL1, trivial⟩ (hR _ _ k1 hR0)).mono ?_))
    · rintro s A C hk ⟨h1, h2, h3⟩
      have hs : w.heap.size < W1.heap.size := (Array.getElem?_eq_some_iff.1 hL1).1
      exact ⟨hI _ _ _ (hk.mono (by omega)) h1, hk.same _ _ h2 (.inr hs), trivial⟩
    · rintro s A C hk ⟨c, h1, h2, h3⟩
      have hs : w.heap.size < W1.heap.size := (Array.getElem?_eq_some_iff.1 hL1).1
      exact ⟨c, hIx _ _ _ _ (hk.mono (by omega)) h1, hk.same _ _ h2 (.inr hs), trivial⟩
    · rintro pre x W ⟨hi, hl, hk⟩ hr ha
      have hs1 : w.heap.size < W1.heap.size := (Array.getElem?_eq_some_iff.1 hL1).1
      exact (round_lawY (F := Fence.wide) (fun _ => trivial) (l := w.heap.size) (B := w.heap.size) (by omega) hs1 (X := fun _ => True) (fun _ _ _ _ => trivial) (fun _ _ _ => trivial)
        (fun st pe => by rw [hrec]) hps I Ix hI hIx hR hAdm Ax hAx (hassign _) (fun pre x a' W => hbody _ pre x a' W (by omega)) pre x W hi hr hl trivial ha)
    · rintro e W2 ⟨⟨v, rfl⟩, (⟨xs, hS2, ⟨hi, hl, hk⟩, hr⟩ | ⟨pre, hSp2, c, hi, hl, hk⟩)⟩
      · have kp := Kept.putObj (B := w.heap.size) (.loop { rec .ready none with state := .exhausted }) (by omega) hl rfl
        exact ⟨none, _, by have := run_endLoop (P := P) hl (by rw [hrec]; simp); rw [hrec] at this ⊢; exact this, hdone xs _ (hS _ _ _ kp hS2) (hI _ _ _ kp.x hi) (hR _ _ kp hr)⟩
      · have kp := Kept.putObj (B := w.heap.size) (.loop { rec .done (some c) with state := .exhausted }) (by omega) hl rfl
        exact ⟨some c, _, by have := run_endLoop (P := P) hl (by rw [hrec]; simp); rw [hrec] at this ⊢; exact this, hstop c pre _ (hSp _ _ _ kp hSp2) (hIx _ _ _ _ kp.x hi)⟩
end

section
variable {P : Program} {N : TypeId → Bool} {α : Type} {g : Operand} {ps : Array Tmp} {assign body : Code} {Q : Exit → Act → World → Prop} {a : Act} {w : World} {gf : Nat} {lb : Array Value}
  {encs : α → Array Value} {Adm : List α → α → World → Prop} {S Sp : List α → World → Prop} {R : World → Prop}

/-- the statement, outside of every round, whose assignments turn slots alone -/
theorem range_pY (hg : a.eval g = .func (.func gf) #[] lb) (eg : ∀ args w, (callFunc gf args).run P w = .ok (.enter gf args) w)
    (hseq : SeqY P N gf lb encs R Adm S Sp) (hps : ∀ x, (encs x).size = ps.size) (I : List α → World → Prop) (Ix : Code → List α → World → Prop)
    (hI : ∀ s, StX N w.heap.size (I s)) (hIx : ∀ c s, StX N w.heap.size (Ix c s)) (hR : ∀ B, St B R) (hAdm : ∀ pre x, St w.heap.size (Adm pre x)) (hS : ∀ xs, St w.heap.size (S xs)) (hSp : ∀ xs, St w.heap.size (Sp xs)) (h0 : I [] w) (hR0 : R w)
    (act : α → Act)
    (hassign : ∀ (l : Nat) (x : α) (W : World) (K : Act → World → Prop), K (act x) W →
      assign.wpIn (Fence.wide.inRound l) 0 P (Exit.then K (fun _ _ _ => False)) { tmps := (ps.zip (encs x)).foldl (fun t (p, v) => t.setIfInBounds p v) a.tmps, defers := [] } W)
    (hbody : ∀ (l : Nat) (pre : List α) (x : α) (W : World), w.heap.size ≤ l → (∃ r, W.heap[l]? = some (.loop r)) → I pre W → R W → Adm pre x W →
      body.wpIn (Fence.wide.inRound l) 0 P (rpostX N w.heap.size R I Ix (pre ++ [x]) W) (act x) W)
    (hdone : ∀ (D : Nat) (xs : List α) (W : World), w.heap.size ≤ D → S xs W → I xs W → R W → W.heap[D]? = some (.deferred (some [])) → Q .normal { a with defers := { target := .collected D, args := #[] } :: a.defers } W)
    (hstop : ∀ (D : Nat) (c : Code) (pre : List α) (W : World), w.heap.size ≤ D → Sp pre W → Ix c pre W → W.heap[D]? = some (.deferred (some [])) →
      c.wpIn Fence.wide 0 P Q { a with defers := { target := .collected D, args := #[] } :: a.defers } W) :
    (Code.rangeFunc g ps assign body).wpIn Fence.wide 0 P Q a w :=
  range_lawY hg eg hseq hps I Ix hI hIx (hR _) hAdm h0 hR0 (fun x a' _ => a' = act x) (fun _ _ _ _ _ h => h)
    (fun l _ x W K hi hr ha hK => hassign l x W K (hK _ _ (KeepsX.refl _ _) hr hi ha rfl))
    (fun l pre x a' W hl hr2 hi hr ha hax => by subst hax; exact hbody l pre x W hl hr2 hi hr ha) hdone hstop hS hSp

/-- the same, in a round of the loop l₀ -/
theorem range_in_pY {l₀ : Nat} {r₀ : Loop} (hl₀ : w.heap[l₀]? = some (.loop r₀)) (hg : a.eval g = .func (.func gf) #[] lb) (eg : ∀ args w, (callFunc gf args).run P w = .ok (.enter gf args) w)
    (hseq : SeqY P N gf lb encs R Adm S Sp) (hps : ∀ x, (encs x).size = ps.size) (I : List α → World → Prop) (Ix : Code → List α → World → Prop)
    (hI : ∀ s, StX N w.heap.size (I s)) (hIx : ∀ c s, StX N w.heap.size (Ix c s)) (hR : ∀ B, St B R) (hAdm : ∀ pre x, St w.heap.size (Adm pre x)) (hS : ∀ xs, St w.heap.size (S xs)) (hSp : ∀ xs, St w.heap.size (Sp xs)) (h0 : I [] w) (hR0 : R w)
    (act : α → Act)
    (hassign : ∀ (l : Nat) (x : α) (W : World) (K : Act → World → Prop), K (act x) W →
      assign.wpIn ((Fence.wide.inRound l₀).inRound l) 0 P (Exit.then K (fun _ _ _ => False)) { tmps := (ps.zip (encs x)).foldl (fun t (p, v) => t.setIfInBounds p v) a.tmps, defers := [] } W)
    (hbody : ∀ (l : Nat) (pre : List α) (x : α) (W : World), w.heap.size ≤ l → (∃ r, W.heap[l]? = some (.loop r)) → I pre W → R W → Adm pre x W →
      body.wpIn ((Fence.wide.inRound l₀).inRound l) 0 P (rpostX N w.heap.size R I Ix (pre ++ [x]) W) (act x) W)
    (hdone : ∀ (xs : List α) (W : World), S xs W → I xs W → R W → Q .normal a W)
    (hstop : ∀ (c : Code) (pre : List α) (W : World), Sp pre W → Ix c pre W → c.wpIn (Fence.wide.inRound l₀) 0 P Q a W) :
    (Code.rangeFunc g ps assign body).wpIn (Fence.wide.inRound l₀) 0 P Q a w :=
  range_law_inY hl₀ hg eg hseq hps I Ix hI hIx (hR _) hAdm h0 hR0 (fun x a' _ => a' = act x) (fun _ _ _ _ _ h => h)
    (fun l _ x W K hi hr ha hK => hassign l x W K (hK _ _ (KeepsX.refl _ _) hr hi ha rfl))
    (fun l pre x a' W hl hr2 hi hr ha hax => by subst hax; exact hbody l pre x W hl hr2 hi hr ha) hdone hstop hS hSp
end


/-- the statement, outside of every round, whose assignments lay each thing in a block of its own -/
theorem range_boxY {N : TypeId → Bool} {P : Program} {α : Type} {g : Operand} {ps : Array Tmp} {assign body : Code} {Q : Exit → Act → World → Prop} {a : Act} {w : World} {gf : Nat} {lb : Array Value}
    {encs : α → Array Value} {Adm : List α → α → World → Prop} {S Sp : List α → World → Prop} {R : World → Prop}
    (hg : a.eval g = .func (.func gf) #[] lb) (eg : ∀ args w, (callFunc gf args).run P w = .ok (.enter gf args) w)
    (hseq : SeqY P N gf lb encs R Adm S Sp) (hps : ∀ x, (encs x).size = ps.size) (I : List α → World → Prop) (Ix : Code → List α → World → Prop)
    (hI : ∀ s, StX N w.heap.size (I s)) (hIx : ∀ c s, StX N w.heap.size (Ix c s)) (hR : ∀ B, St B R) (hAdm : ∀ pre x, St w.heap.size (Adm pre x)) (hS : ∀ xs, St w.heap.size (S xs)) (hSp : ∀ xs, St w.heap.size (Sp xs))
    (hsz : ∀ pre W, I pre W → w.heap.size ≤ W.heap.size) (h0 : I [] w) (hR0 : R w)
    (mk : Nat → α → Act) (cs : α → Array Value) (tI : TypeId)
    (hassign : ∀ (l : Nat) (x : α) (j : Nat) (W : World) (K : Act → World → Prop), W.heap.size = j → K (mk j x) (W.alloc (.cells (cs x) tI)) →
      assign.wpIn (Fence.wide.inRound l) 0 P (Exit.then K (fun _ _ _ => False)) { tmps := (ps.zip (encs x)).foldl (fun t (p, v) => t.setIfInBounds p v) a.tmps, defers := [] } W)
    (hbody : ∀ (l : Nat) (pre : List α) (x : α) (j : Nat) (W : World), w.heap.size ≤ l → (∃ r, W.heap[l]? = some (.loop r)) → I pre W → R W → Adm pre x W → w.heap.size ≤ j → W.heap[j]? = some (.cells (cs x) tI (0, 0)) →
      body.wpIn (Fence.wide.inRound l) 0 P (rpostX N w.heap.size R I Ix (pre ++ [x]) W) (mk j x) W)
    (hdone : ∀ (D : Nat) (xs : List α) (W : World), w.heap.size ≤ D → S xs W → I xs W → R W → W.heap[D]? = some (.deferred (some [])) → Q .normal { a with defers := { target := .collected D, args := #[] } :: a.defers } W)
    (hstop : ∀ (D : Nat) (c : Code) (pre : List α) (W : World), w.heap.size ≤ D → Sp pre W → Ix c pre W → W.heap[D]? = some (.deferred (some [])) →
      c.wpIn Fence.wide 0 P Q { a with defers := { target := .collected D, args := #[] } :: a.defers } W) :
    (Code.rangeFunc g ps assign body).wpIn Fence.wide 0 P Q a w :=
  range_lawY hg eg hseq hps I Ix hI hIx (hR _) hAdm h0 hR0 (fun x a' W => ∃ j, w.heap.size ≤ j ∧ a' = mk j x ∧ W.heap[j]? = some (.cells (cs x) tI (0, 0)))
    (fun _ _ _ _ hk ⟨j, h1, h2, h3⟩ => ⟨j, h1, h2, hk.same _ _ h3 (.inl rfl)⟩)
    (fun l pre x W K hi hr ha hK => hassign l x _ W K rfl (hK _ _ (KeepsX.alloc _ W _) (hR 0 _ _ (Kept.alloc _ _ _) hr) (hI _ _ _ (Kept.alloc _ _ _).x hi) (hAdm _ _ _ _ (Kept.alloc _ _ _) ha) ⟨_, hsz _ _ hi, rfl, World.alloc_heap_new W _⟩))
    (fun l pre x a' W hl hr2 hi hr ha hax => by obtain ⟨j, hj, rfl, hb⟩ := hax; exact hbody l pre x j W hl hr2 hi hr ha hj hb) hdone hstop hS hSp



end Go.Proofs.YtjkfefjfmocekaaDoor
