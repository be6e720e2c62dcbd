/- Ranges over a function that keeps blocks which it laid ahead of its first yield, of whatever types: they lie below M; what the consumer lays lies above (by gen_rangem.py). -/
import Derived.Test.YtempicociampoaaGreatDoorJ9
namespace Go.Proofs.YtempicociampoaaGreatDoor
open Go.RowKit

/-- what a round's body leaves alone: what is no cells, and what lies from B to M -/
structure KeepsM (M B : Nat) (W W' : World) : Prop where
 size : W.heap.size ≤ W'.heap.size
 same : ∀ (k : Nat) (o : Obj), B ≤ k → W.heap[k]? = some o → (o.isCells = false ∨ k < M) → W'.heap[k]? = some o
theorem KeepsM.refl (M B : Nat) (W : World) : KeepsM M B W W := ⟨Nat.le_refl _, fun _ _ _ h _ => h⟩
theorem KeepsM.trans {M B : Nat} {X Y Z : World} (h : KeepsM M B X Y) (k : KeepsM M B Y Z) : KeepsM M B X Z := ⟨Nat.le_trans h.size k.size, fun i o hB hi ho => k.same i o hB (h.same i o hB hi ho) ho⟩
theorem KeepsM.mono {M B B' : Nat} {W W' : World} (h : KeepsM M B W W') (hB : B ≤ B') : KeepsM M B' W W' := ⟨h.size, fun k o hk h1 h2 => h.same k o (by omega) h1 h2⟩
theorem keepsM_putObj {M B l : Nat} (W : World) (o : Obj) (h : l < B) : KeepsM M B W (W.putObj l o) :=
 ⟨by simp [World.putObj], fun k o' hB hk _ => (World.putObj_heap_other (by omega)).trans hk⟩
theorem KeepsM.alloc (M B : Nat) (W : World) (o : Obj) : KeepsM M B W (W.alloc o) := ⟨by simp, fun k _ _ hk _ => (Below.heap_alloc W o k (Array.getElem?_eq_some_iff.1 hk).1).trans hk⟩
theorem KeepsM.drew (M B : Nat) (W : World) : KeepsM M B W W.drew := ⟨Nat.le_refl _, fun _ _ _ h _ => h⟩
/-- a store below B, or at M and above -/
theorem KeepsM.setCell (M B : Nat) {W : World} {b i : Nat} {cs : Array Value} {t : TypeId} {fr : Nat × Nat} (h : W.heap[b]? = some (.cells cs t fr)) (hb : b < B ∨ M ≤ b) (x : Value) : KeepsM M B W (W.setCell ⟨b, i, none⟩ x) :=
 ⟨by simp [World.setCell], fun k o hk hh ho => by
  by_cases e : k = b
  ·subst e; rw [h] at hh; cases hh
   rcases ho with ho | ho
   ·cases ho
   ·omega
  ·exact (setCell_off e).trans hh⟩
/-- an own row that lies at M and above has grown -/
theorem KeepsM.grown {M : Nat} (B : Nat) {W W' : World} {e : TypeId} {size : Nat} {v : Value} {n : Nat} {xs : List Value} (h : W.ownsRow M e size v n xs) (hg : W.grownBy W' v.ownBlock) : KeepsM M B W W' :=
 ⟨hg.size, fun k o _ hk ho => by
  by_cases e : some k = v.ownBlock
  ·rcases h.2 with ⟨rfl, _⟩ | ⟨g, cap, cur, rfl, hgM, hh, _⟩
   ·simp [Value.ownBlock] at e
   ·simp [Value.ownBlock] at e
    subst e
    rw [hh] at hk; cases hk
    rcases ho with ho | ho
    ·cases ho
    ·omega
  ·exact (hg.block k (Array.getElem?_eq_some_iff.1 hk).1 e).trans hk⟩

/-- the iterator's word: it chooses M ahead of its first yield -/
def SeqM {α : Type} (P : Program) (gf : Nat) (lb : Array Value) (encs : α → Array Value) (R : World → Prop) (Adm : List α → α → World → Prop) (S Sp : List α → World → Prop) : Prop :=
 ∀ (l : Nat) (J0 : World → Prop) (J : Nat → List α → World → Prop) (Jx : List α → World → Prop) (W : World), St W.heap.size J0 → (∀ M s, St W.heap.size (J M s)) → (∀ s, St W.heap.size (Jx s)) →
  (∀ M W1, J0 W1 → W.heap.size ≤ M → M ≤ W1.heap.size → J M [] W1) →
  (∀ M pre x W1, W.heap.size ≤ M → J M pre W1 → R W1 → Adm pre x W1 → YieldAt Fence.wide 0 P l (encs x) W1 fun e W' =>
   (e = .returned (.bool true) ∧ J M (pre ++ [x]) W' ∧ R W' ∧ KeepsM M W.heap.size W1 W') ∨ (e = .returned (.bool false) ∧ Jx (pre ++ [x]) W')) →
  J0 W → R W →
  Calls P gf (#[.func (.yield l) #[] #[]] ++ lb) W fun e W' => (∃ v, e = .returned v) ∧ ((∃ xs M, S xs W' ∧ J M xs W' ∧ R W') ∨ (∃ pre, Sp pre W' ∧ Jx pre W'))
/-- how a round's body may be left -/
def rpostM {α : Type} (M : Nat) (B : Nat) (R : World → Prop) (I : List α → World → Prop) (Ix : Code → List α → World → Prop) (xs : List α) (W : World) : Exit → Act → World → Prop
 | .normal, _, W' => KeepsM M B W W' ∧ R W' ∧ I xs W'
 | .ret, _, W' => KeepsM M B W W' ∧ Ix .ret xs W'
 | .exit id, _, W' => KeepsM M B W W' ∧ Ix (.exit id) xs W'
 | .goto t, _, W' => KeepsM M B W W' ∧ Ix (.goto t) xs W'
 | .panic _, _, _ => False
 | .outgrown, _, _ => False

section
variable {P : Program} {α : Type} {g : Operand} {ps : Array Tmp} {assign body : Code} {Q : Exit → Act → World → Prop} {a : Act} {w : World} {gf : Nat} {lb : Array Value}
 {encs : α → Array Value} {Adm : List α → α → World → Prop} {S Sp : List α → World → Prop} {R : World → Prop}
/-- one round, its record at l, whatever book-keeping block lies at D -/
theorem round_lawM {M : Nat} {F : Fence} (hF : ∀ f, F.fn f) {l : Nat} {rec : LoopState → Option Code → Loop} {fn : FuncId} {B B' : Nat} (hl1 : B ≤ l) (hlB : l < B') {X : World → Prop} (hX : ∀ A C, KeepsM M B A C → X A → X C) (hX2 : ∀ A o, X A → X (A.putObj l o))
  (hrec : ∀ st pe, rec st pe = { state := st, pending := pe, fn := fn, tmps := a.tmps, params := ps, assign := assign, body := body, defers := (rec .ready none).defers })
  (hps : ∀ x, (encs x).size = ps.size) (I : List α → World → Prop) (Ix : Code → List α → World → Prop)
  (hI : ∀ s, St B (I s)) (hIx : ∀ c s, St B (Ix c s)) (hR : St B R) (hAdm : ∀ pre x, St B (Adm pre x)) (Ax : α → Act → World → Prop) (hAx : ∀ x a', St B (Ax x a'))
  (hassign : ∀ (pre : List α) (x : α) (W : World) (K : Act → World → Prop), I pre W → R W → Adm pre x W → (∀ a' W', KeepsM M B W W' → R W' → I pre W' → Adm pre x W' → Ax x a' W' → K a' W') →
   assign.wpIn (F.inRound l) 0 P (Exit.then K (fun _ _ _ => False)) { tmps := (ps.zip (encs x)).foldl (fun t (p, v) => t.setIfInBounds p v) a.tmps, defers := [] } W)
  (hbody : ∀ (pre : List α) (x : α) (a' : Act) (W : World), (∃ r, W.heap[l]? = some (.loop r)) → I pre W → R W → Adm pre x W → Ax x a' W → body.wpIn (F.inRound l) 0 P (rpostM M B R I Ix (pre ++ [x]) W) a' W)
  (pre : List α) (x : α) (W : World) (hi : I pre W) (hr : R W) (hl : W.heap[l]? = some (.loop (rec .ready none))) (hk : X W) (ha : Adm pre x W) :
  YieldAt F 0 P l (encs x) W fun e W' =>
   (e = .returned (.bool true) ∧ (I (pre ++ [x]) W' ∧ W'.heap[l]? = some (.loop (rec .ready none)) ∧ X W') ∧ R W' ∧ KeepsM M B' W W') ∨
   (e = .returned (.bool false) ∧ ∃ c, Ix c (pre ++ [x]) W' ∧ W'.heap[l]? = some (.loop (rec .done (some c))) ∧ X W') := by
 have hy := run_yield (P := P) (args := encs x) hl (by rw [hrec]; exact hps x)
 rw [hrec] at hy
 refine ⟨fn, _, assign, body, hy, roundIn_of_wpIn (hF _) (hassign pre x W _ hi hr ha ?_)⟩
 intro a' Wa hkf hra hia hada hax
 have hla := hkf.same _ _ hl1 hl (.inl rfl)
 have hka := hX _ _ hkf hk
 have hlt : l < Wa.heap.size := (Array.getElem?_eq_some_iff.1 hla).1
 refine ⟨_, run_beginRound hla (by rw [hrec]), ?_⟩
 have kp : Kept B Wa (Wa.putObj l (.loop { rec .ready none with state := .busy })) := Kept.putObj _ hl1 hla rfl
 have hl2 : (Wa.putObj l (.loop { rec .ready none with state := .busy })).heap[l]? = some (.loop { rec .ready none with state := .busy }) := World.putObj_heap_same hlt
 have hk2 := hX2 _ (.loop { rec .ready none with state := .busy }) hka
 refine wpIn_mono (hbody pre x a' _ ⟨_, hl2⟩ (hI _ _ _ kp hia) (hR _ _ kp hra) (hAdm _ _ _ _ kp hada) (hAx _ _ _ _ kp hax)) ?_
 have fin : ∀ (jump : Option Code) (W3 : World), KeepsM M B (Wa.putObj l (.loop { rec .ready none with state := .busy })) W3 →
   (Instr.endRound l jump).run P W3 = .ok (.bool jump.isNone) (W3.putObj l (.loop (rec (if jump.isNone then .ready else .done) jump))) ∧
   Kept B W3 (W3.putObj l (.loop (rec (if jump.isNone then .ready else .done) jump))) ∧
   (W3.putObj l (.loop (rec (if jump.isNone then .ready else .done) jump))).heap[l]? = some (.loop (rec (if jump.isNone then .ready else .done) jump)) ∧
   X (W3.putObj l (.loop (rec (if jump.isNone then .ready else .done) jump))) := fun jump W3 hk3 => by
  have hl3 := hk3.same _ _ hl1 hl2 (.inl rfl)
  have := run_endRound (P := P) jump hl3
  rw [hrec] at this
  rw [hrec (if jump.isNone then .ready else .done) jump]
  refine ⟨this, Kept.putObj _ hl1 hl3 rfl, World.putObj_heap_same (Array.getElem?_eq_some_iff.1 hl3).1, hX2 _ _ (hX _ _ hk3 hk2)⟩
 rintro e a3 W3 hp
 cases e with
 | normal =>
  obtain ⟨hk3, hr3, hi3⟩ := hp
  obtain ⟨h1, h2, h3, h4⟩ := fin none W3 hk3
  exact ⟨_, _, h1, .inl ⟨rfl, ⟨hI _ _ _ h2 hi3, h3, h4⟩, hR _ _ h2 hr3, (hkf.mono (by omega)).trans ((keepsM_putObj _ _ hlB).trans ((hk3.mono (by omega)).trans (keepsM_putObj _ _ hlB)))⟩⟩
 | ret =>
  obtain ⟨hk3, hi3⟩ := hp
  obtain ⟨h1, h2, h3, h4⟩ := fin (some .ret) W3 hk3
  exact ⟨_, _, h1, .inr ⟨rfl, .ret, hIx _ _ _ _ h2 hi3, h3, h4⟩⟩
 | exit id =>
  obtain ⟨hk3, hi3⟩ := hp
  obtain ⟨h1, h2, h3, h4⟩ := fin (some (.exit id)) W3 hk3
  exact ⟨_, _, h1, .inr ⟨rfl, .exit id, hIx _ _ _ _ h2 hi3, h3, h4⟩⟩
 | goto t =>
  obtain ⟨hk3, hi3⟩ := hp
  obtain ⟨h1, h2, h3, h4⟩ := fin (some (.goto t)) W3 hk3
  exact ⟨_, _, h1, .inr ⟨rfl, .goto t, hIx _ _ _ _ h2 hi3, h3, h4⟩⟩
 | panic ch => exact hp.elim
 | outgrown => exact hp.elim

/-- the statement, outside of every round -/
theorem range_lawM (hg : a.eval g = .func (.func gf) #[] lb) (eg : ∀ args w, (callFunc gf args).run P w = .ok (.enter gf args) w)
  (hseq : SeqM P gf lb encs R Adm S Sp) (hps : ∀ x, (encs x).size = ps.size) (I : Nat → List α → World → Prop) (I0 : World → Prop) (Ix : Code → List α → World → Prop)
  (hI : ∀ M s, St w.heap.size (I M s)) (hI0 : St w.heap.size I0) (hI1 : ∀ M W, I0 W → w.heap.size ≤ M → M ≤ W.heap.size → I M [] W) (hIx : ∀ c s, St w.heap.size (Ix c s)) (hR : St w.heap.size R) (hAdm : ∀ pre x, St w.heap.size (Adm pre x)) (h0 : I0 w) (hR0 : R w)
  (Ax : α → Act → World → Prop) (hAx : ∀ x a', St w.heap.size (Ax x a'))
  (hassign : ∀ (l M : Nat) (pre : List α) (x : α) (W : World) (K : Act → World → Prop), w.heap.size ≤ M → I M pre W → R W → Adm pre x W → (∀ a' W', KeepsM M w.heap.size W W' → R W' → I M pre W' → Adm pre x W' → Ax x a' W' → K a' W') →
   assign.wpIn (Fence.wide.inRound l) 0 P (Exit.then K (fun _ _ _ => False)) { tmps := (ps.zip (encs x)).foldl (fun t (p, v) => t.setIfInBounds p v) a.tmps, defers := [] } W)
  (hbody : ∀ (l M : Nat) (pre : List α) (x : α) (a' : Act) (W : World), w.heap.size ≤ l → w.heap.size ≤ M → (∃ r, W.heap[l]? = some (.loop r)) → I M pre W → R W → Adm pre x W → Ax x a' W →
   body.wpIn (Fence.wide.inRound l) 0 P (rpostM M w.heap.size R (I M) Ix (pre ++ [x]) W) a' W)
  (hdone : ∀ (D M : Nat) (xs : List α) (W : World), w.heap.size ≤ D → S xs W → I M xs W → R W → W.heap[D]? = some (.deferred (some [])) → Q .normal { a with defers := { target := .collected D, args := #[] } :: a.defers } W)
  (hstop : ∀ (D : Nat) (c : Code) (pre : List α) (W : World), w.heap.size ≤ D → Sp pre W → Ix c pre W → W.heap[D]? = some (.deferred (some [])) →
   c.wpIn Fence.wide 0 P Q { a with defers := { target := .collected D, args := #[] } :: a.defers } W)
  (hS : ∀ xs, St w.heap.size (S xs)) (hSp : ∀ xs, St w.heap.size (Sp xs)) :
  (Code.rangeFunc g ps assign body).wpIn Fence.wide 0 P Q a w := by
 refine wpIn_rangeFunc ?_
 intro fn hfn
 obtain ⟨rec, hrec⟩ : ∃ rec : LoopState → Option Code → Loop, rec = fun st pe => { state := st, pending := pe, fn, tmps := a.tmps, params := ps, assign, body, defers := w.heap.size } := ⟨_, rfl⟩
 obtain ⟨W1, hW1⟩ : ∃ W1, (w.alloc (.deferred (some []))).alloc (.loop (rec .ready none)) = W1 := ⟨_, rfl⟩
 have hL1 : W1.heap[w.heap.size + 1]? = some (.loop (rec .ready none)) := by
  rw [← hW1]; have := World.alloc_heap_new (w.alloc (.deferred (some []))) (.loop (rec .ready none)); rwa [World.size_alloc] at this
 have hK1 : W1.heap[w.heap.size]? = some (.deferred (some [])) := by
  rw [← hW1]; exact (Below.heap_alloc _ _ _ (by simp)).trans (World.alloc_heap_new w _)
 have k1 : Kept w.heap.size w W1 := by rw [← hW1]; exact (Kept.alloc _ _ _).trans (Kept.alloc _ _ _)
 refine ⟨w.heap.size + 1, [{ target := .collected w.heap.size, args := #[] }], W1, { target := .fn (.func gf) lb, args := #[.func (.yield (w.heap.size + 1)) #[] #[]] }, W1, gf,
  #[.func (.yield (w.heap.size + 1)) #[] #[]] ++ lb, W1, ?_, ?_, ?_, ?_, (fun h => (by cases h)), ?_⟩
 ·rw [← hW1, hrec]; exact run_enterLoop_outer _ _ _ _ _
 ·simp only [resolve, hg]
  simp [go_sem]
 ·intro f' hf'; simp [Target.leads] at hf'; subst hf'; exact trivial
 ·simp [invoke, go_sem, eg]
 ·refine callsIn_wide.2 ((hseq (w.heap.size + 1)
   (fun W => I0 W ∧ W.heap[w.heap.size + 1]? = some (.loop (rec .ready none)) ∧ W.heap[w.heap.size]? = some (.deferred (some [])))
   (fun M pre W => I M pre W ∧ W.heap[w.heap.size + 1]? = some (.loop (rec .ready none)) ∧ W.heap[w.heap.size]? = some (.deferred (some [])))
   (fun pre W => ∃ c, Ix c pre W ∧ W.heap[w.heap.size + 1]? = some (.loop (rec .done (some c))) ∧ W.heap[w.heap.size]? = some (.deferred (some [])))
   W1 ?_ ?_ ?_ ?_ ?_ ⟨hI0 _ _ k1 h0, hL1, hK1⟩ (hR _ _ k1 hR0)).mono ?_)
  ·rintro A C hk ⟨h1, h2, h3⟩
   have hs : w.heap.size + 1 < W1.heap.size := (Array.getElem?_eq_some_iff.1 hL1).1
   exact ⟨hI0 _ _ (hk.mono (by omega)) h1, hk.same _ _ h2 (.inr hs), hk.same _ _ h3 (.inr (by omega))⟩
  ·rintro M s A C hk ⟨h1, h2, h3⟩
   have hs : w.heap.size + 1 < W1.heap.size := (Array.getElem?_eq_some_iff.1 hL1).1
   exact ⟨hI _ _ _ _ (hk.mono (by omega)) h1, hk.same _ _ h2 (.inr hs), hk.same _ _ h3 (.inr (by omega))⟩
  ·rintro s A C hk ⟨c, h1, h2, h3⟩
   have hs : w.heap.size + 1 < W1.heap.size := (Array.getElem?_eq_some_iff.1 hL1).1
   exact ⟨c, hIx _ _ _ _ (hk.mono (by omega)) h1, hk.same _ _ h2 (.inr hs), hk.same _ _ h3 (.inr (by omega))⟩
  ·rintro M W ⟨h1, h2, h3⟩ hM hMs
   exact ⟨hI1 M W h1 (by have := k1.size; omega) hMs, h2, h3⟩
  ·rintro M pre x W hM ⟨hi, hl, hk⟩ hr ha
   have hs1 : w.heap.size + 1 < W1.heap.size := (Array.getElem?_eq_some_iff.1 hL1).1
   exact round_lawM (M := M) (fun _ => trivial) (l := w.heap.size + 1) (B := w.heap.size) (by omega) hs1 (X := fun W => W.heap[w.heap.size]? = some (.deferred (some []))) (fun A C hk hx => hk.same _ _ (Nat.le_refl _) hx (.inl rfl)) (fun A o hx => (World.putObj_heap_other (by omega)).trans hx)
    (fun st pe => by rw [hrec]) hps (I M) Ix (hI M) hIx hR hAdm Ax hAx (fun pre x W K => hassign _ M pre x W K (by omega)) (fun pre x a' W => hbody _ M pre x a' W (by omega) (by omega)) pre x W hi hr hl hk ha
  ·rintro e W2 ⟨⟨v, rfl⟩, (⟨xs, M, hS2, ⟨hi, hl, hk⟩, hr⟩ | ⟨pre, hSp2, c, hi, hl, hk⟩)⟩
   ·have kp := Kept.putObj (B := w.heap.size) (.loop { rec .ready none with state := .exhausted }) (by omega) hl rfl
    exact ⟨none, _, by have := run_endLoop (P := P) hl (by rw [hrec]; simp); rw [hrec] at this ⊢; exact this, hdone _ M xs _ (Nat.le_refl _) (hS _ _ _ kp hS2) (hI _ _ _ _ kp hi) (hR _ _ kp hr) ((World.putObj_heap_other (by omega)).trans hk)⟩
   ·have kp := Kept.putObj (B := w.heap.size) (.loop { rec .done (some c) with state := .exhausted }) (by omega) hl rfl
    exact ⟨some c, _, by have := run_endLoop (P := P) hl (by rw [hrec]; simp); rw [hrec] at this ⊢; exact this, hstop _ c pre _ (Nat.le_refl _) (hSp _ _ _ kp hSp2) (hIx _ _ _ _ kp hi) ((World.putObj_heap_other (by omega)).trans hk)⟩
end
/-- the statement, outside of every round, whose assignments lay each thing in a block of its own -/
theorem range_boxM {P : Program} {α : Type} {g : Operand} {ps : Array Tmp} {assign body : Code} {Q : Exit → Act → World → Prop} {a : Act} {w : World} {gf : Nat} {lb : Array Value}
  {encs : α → Array Value} {Adm : List α → α → World → Prop} {S Sp : List α → World → Prop} {R : World → Prop}
  (hg : a.eval g = .func (.func gf) #[] lb) (eg : ∀ args w, (callFunc gf args).run P w = .ok (.enter gf args) w)
  (hseq : SeqM P gf lb encs R Adm S Sp) (hps : ∀ x, (encs x).size = ps.size) (I : Nat → List α → World → Prop) (I0 : World → Prop) (Ix : Code → List α → World → Prop)
  (hI : ∀ M s, St w.heap.size (I M s)) (hI0 : St w.heap.size I0) (hI1 : ∀ M W, I0 W → w.heap.size ≤ M → M ≤ W.heap.size → I M [] W) (hIx : ∀ c s, St w.heap.size (Ix c s)) (hR : ∀ B, St B R) (hAdm : ∀ pre x, St w.heap.size (Adm pre x)) (hS : ∀ xs, St w.heap.size (S xs)) (hSp : ∀ xs, St w.heap.size (Sp xs))
  (hsz : ∀ M pre W, I M pre W → w.heap.size ≤ W.heap.size) (h0 : I0 w) (hR0 : R w)
  (mk : Nat → α → Act) (cs : α → Array Value) (tI : TypeId)
  (hassign : ∀ (l : Nat) (x : α) (j : Nat) (W : World) (K : Act → World → Prop), W.heap.size = j → K (mk j x) (W.alloc (.cells (cs x) tI)) →
   assign.wpIn (Fence.wide.inRound l) 0 P (Exit.then K (fun _ _ _ => False)) { tmps := (ps.zip (encs x)).foldl (fun t (p, v) => t.setIfInBounds p v) a.tmps, defers := [] } W)
  (hbody : ∀ (l M : Nat) (pre : List α) (x : α) (j : Nat) (W : World), w.heap.size ≤ l → w.heap.size ≤ M → (∃ r, W.heap[l]? = some (.loop r)) → I M pre W → R W → Adm pre x W → w.heap.size ≤ j → W.heap[j]? = some (.cells (cs x) tI (0, 0)) →
   body.wpIn (Fence.wide.inRound l) 0 P (rpostM M w.heap.size R (I M) Ix (pre ++ [x]) W) (mk j x) W)
  (hdone : ∀ (D M : Nat) (xs : List α) (W : World), w.heap.size ≤ D → S xs W → I M xs W → R W → W.heap[D]? = some (.deferred (some [])) → Q .normal { a with defers := { target := .collected D, args := #[] } :: a.defers } W)
  (hstop : ∀ (D : Nat) (c : Code) (pre : List α) (W : World), w.heap.size ≤ D → Sp pre W → Ix c pre W → W.heap[D]? = some (.deferred (some [])) →
   c.wpIn Fence.wide 0 P Q { a with defers := { target := .collected D, args := #[] } :: a.defers } W) :
  (Code.rangeFunc g ps assign body).wpIn Fence.wide 0 P Q a w :=
 range_lawM hg eg hseq hps I I0 Ix hI hI0 hI1 hIx (hR _) hAdm h0 hR0 (fun x a' W => ∃ j, w.heap.size ≤ j ∧ a' = mk j x ∧ W.heap[j]? = some (.cells (cs x) tI (0, 0)))
  (fun _ _ _ _ hk ⟨j, h1, h2, h3⟩ => ⟨j, h1, h2, hk.same _ _ h3 (.inl rfl)⟩)
  (fun l M pre x W K _ hi hr ha hK => hassign l x _ W K rfl (hK _ _ (KeepsM.alloc _ _ W _) (hR 0 _ _ (Kept.alloc _ _ _) hr) (hI _ _ _ _ (Kept.alloc _ _ _) hi) (hAdm _ _ _ _ (Kept.alloc _ _ _) ha) ⟨_, hsz _ _ _ hi, rfl, World.alloc_heap_new W _⟩))
  (fun l M pre x a' W hl hM hr2 hi hr ha hax => by obtain ⟨j, hj, rfl, hb⟩ := hax; exact hbody l M pre x j W hl hM hr2 hi hr ha hj hb) hdone hstop hS hSp



end Go.Proofs.YtempicociampoaaGreatDoor
