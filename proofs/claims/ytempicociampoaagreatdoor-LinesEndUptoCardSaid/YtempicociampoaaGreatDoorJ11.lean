/- Ranges over a function, where the iterator knows that a stopping round keeps its blocks too: for iterators that range over another one (by gen_rangez.py). A drawn region inside of a fence, with a condition that holds behind every act: loads whose cells it names may be taken first. -/
import Derived.Test.YtempicociampoaaGreatDoorJ9
import Derived.OrdersHeld
import Derived.Deep.RegionHeld3
import Derived.OrdersIn
namespace Go.Proofs.YtempicociampoaaGreatDoor
open Go.RowKit
/-- the iterator's word: each thing that it hands out comes with 'Adm'; R: what it reads -/
def SeqY {α : Type} (P : Program) (N : TypeId → Bool) (gf : Nat) (lb : Array Value) (encs : α → Array Value) (R : World → Prop) (Adm : List α → α → World → Prop) (S Sp : List α → World → Prop) : Prop :=
 ∀ (l : Nat) (J Jx : List α → World → Prop) (W : World), (∀ s, StX N W.heap.size (J s)) → (∀ s, StX N W.heap.size (Jx s)) →
  (∀ pre x W1, J pre W1 → R W1 → Adm pre x W1 → YieldAt Fence.wide 0 P l (encs x) W1 fun e W' =>
   (e = .returned (.bool true) ∧ J (pre ++ [x]) W' ∧ R W' ∧ KeepsX N W.heap.size W1 W') ∨ (e = .returned (.bool false) ∧ Jx (pre ++ [x]) W' ∧ KeepsX N W.heap.size W1 W')) →
  J [] W → R W →
  Calls P gf (#[.func (.yield l) #[] #[]] ++ lb) W fun e W' => (∃ v, e = .returned v) ∧ ((∃ xs, S xs W' ∧ J xs W' ∧ R W') ∨ (∃ pre, Sp pre W' ∧ Jx pre W'))

theorem SeqX.y {α : Type} {P : Program} {N : TypeId → Bool} {gf : Nat} {lb : Array Value} {encs : α → Array Value} {R : World → Prop} {Adm : List α → α → World → Prop} {S Sp : List α → World → Prop} (h : SeqX P N gf lb encs R Adm S Sp) : SeqY P N gf lb encs R Adm S Sp :=
 fun l J Jx W h1 h2 h3 => h l J Jx W h1 h2 (fun pre x W1 a b c => let ⟨f, t, g1, bo, hy, hr⟩ := h3 pre x W1 a b c; ⟨f, t, g1, bo, hy, hr.mono (fun _ _ hq => hq.imp id (fun ⟨e, j, _⟩ => ⟨e, j⟩))⟩)
section
variable {P : Program} {N : TypeId → Bool} {α : Type} {g : Operand} {ps : Array Tmp} {assign body : Code} {Q : Exit → Act → World → Prop} {a : Act} {w : World} {gf : Nat} {lb : Array Value}
 {encs : α → Array Value} {Adm : List α → α → World → Prop} {S Sp : List α → World → Prop} {R : World → Prop}

/-- one round, its record at l, whatever book-keeping block lies at D -/
theorem round_lawY {F : Fence} (hF : ∀ f, F.fn f) {l : Nat} {rec : LoopState → Option Code → Loop} {fn : FuncId} {B B' : Nat} (hl1 : B ≤ l) (hlB : l < B') {X : World → Prop} (hX : ∀ A C, KeepsX N B A C → X A → X C) (hX2 : ∀ A o, X A → X (A.putObj l o))
  (hrec : ∀ st pe, rec st pe = { state := st, pending := pe, fn := fn, tmps := a.tmps, params := ps, assign := assign, body := body, defers := (rec .ready none).defers })
  (hps : ∀ x, (encs x).size = ps.size) (I : List α → World → Prop) (Ix : Code → List α → World → Prop)
  (hI : ∀ s, StX N B (I s)) (hIx : ∀ c s, StX N B (Ix c s)) (hR : St B R) (hAdm : ∀ pre x, St B (Adm pre x)) (Ax : α → Act → World → Prop) (hAx : ∀ x a', St B (Ax x a'))
  (hassign : ∀ (pre : List α) (x : α) (W : World) (K : Act → World → Prop), I pre W → R W → Adm pre x W → (∀ a' W', KeepsX N B W W' → R W' → I pre W' → Adm pre x W' → Ax x a' W' → K a' W') →
   assign.wpIn (F.inRound l) 0 P (Exit.then K (fun _ _ _ => False)) { tmps := (ps.zip (encs x)).foldl (fun t (p, v) => t.setIfInBounds p v) a.tmps, defers := [] } W)
  (hbody : ∀ (pre : List α) (x : α) (a' : Act) (W : World), (∃ r, W.heap[l]? = some (.loop r)) → I pre W → R W → Adm pre x W → Ax x a' W → body.wpIn (F.inRound l) 0 P (rpostX N B R I Ix (pre ++ [x]) W) a' W)
  (pre : List α) (x : α) (W : World) (hi : I pre W) (hr : R W) (hl : W.heap[l]? = some (.loop (rec .ready none))) (hk : X W) (ha : Adm pre x W) :
  YieldAt F 0 P l (encs x) W fun e W' =>
   (e = .returned (.bool true) ∧ (I (pre ++ [x]) W' ∧ W'.heap[l]? = some (.loop (rec .ready none)) ∧ X W') ∧ R W' ∧ KeepsX N B' W W') ∨
   (e = .returned (.bool false) ∧ (∃ c, Ix c (pre ++ [x]) W' ∧ W'.heap[l]? = some (.loop (rec .done (some c))) ∧ X W') ∧ KeepsX N B' W W') := by
 have hy := run_yield (P := P) (args := encs x) hl (by rw [hrec]; exact hps x)
 rw [hrec] at hy
 refine ⟨fn, _, assign, body, hy, roundIn_of_wpIn (hF _) (hassign pre x W _ hi hr ha ?_)⟩
 intro a' Wa hkf hra hia hada hax
 have hla := hkf.same _ _ hl1 hl (.inl rfl)
 have hka := hX _ _ hkf hk
 have hlt : l < Wa.heap.size := (Array.getElem?_eq_some_iff.1 hla).1
 refine ⟨_, run_beginRound hla (by rw [hrec]), ?_⟩
 have kp : Kept B Wa (Wa.putObj l (.loop { rec .ready none with state := .busy })) := Kept.putObj _ hl1 hla rfl
 have hl2 : (Wa.putObj l (.loop { rec .ready none with state := .busy })).heap[l]? = some (.loop { rec .ready none with state := .busy }) := World.putObj_heap_same hlt
 have hk2 := hX2 _ (.loop { rec .ready none with state := .busy }) hka
 refine wpIn_mono (hbody pre x a' _ ⟨_, hl2⟩ (hI _ _ _ kp.x hia) (hR _ _ kp hra) (hAdm _ _ _ _ kp hada) (hAx _ _ _ _ kp hax)) ?_
 have fin : ∀ (jump : Option Code) (W3 : World), KeepsX N B (Wa.putObj l (.loop { rec .ready none with state := .busy })) W3 →
   (Instr.endRound l jump).run P W3 = .ok (.bool jump.isNone) (W3.putObj l (.loop (rec (if jump.isNone then .ready else .done) jump))) ∧
   Kept B W3 (W3.putObj l (.loop (rec (if jump.isNone then .ready else .done) jump))) ∧
   (W3.putObj l (.loop (rec (if jump.isNone then .ready else .done) jump))).heap[l]? = some (.loop (rec (if jump.isNone then .ready else .done) jump)) ∧
   X (W3.putObj l (.loop (rec (if jump.isNone then .ready else .done) jump))) := fun jump W3 hk3 => by
  have hl3 := hk3.same _ _ hl1 hl2 (.inl rfl)
  have := run_endRound (P := P) jump hl3
  rw [hrec] at this
  rw [hrec (if jump.isNone then .ready else .done) jump]
  refine ⟨this, Kept.putObj _ hl1 hl3 rfl, World.putObj_heap_same (Array.getElem?_eq_some_iff.1 hl3).1, hX2 _ _ (hX _ _ hk3 hk2)⟩
 rintro e a3 W3 hp
 cases e with
 | normal =>
  obtain ⟨hk3, hr3, hi3⟩ := hp
  obtain ⟨h1, h2, h3, h4⟩ := fin none W3 hk3
  exact ⟨_, _, h1, .inl ⟨rfl, ⟨hI _ _ _ h2.x hi3, h3, h4⟩, hR _ _ h2 hr3, (hkf.mono (by omega)).trans ((keepsX_putObj _ _ hlB).trans ((hk3.mono (by omega)).trans (keepsX_putObj _ _ hlB)))⟩⟩
 | ret =>
  obtain ⟨hk3, hi3⟩ := hp
  obtain ⟨h1, h2, h3, h4⟩ := fin (some .ret) W3 hk3
  exact ⟨_, _, h1, .inr ⟨rfl, ⟨.ret, hIx _ _ _ _ h2.x hi3, h3, h4⟩, (hkf.mono (by omega)).trans ((keepsX_putObj _ _ hlB).trans ((hk3.mono (by omega)).trans (keepsX_putObj _ _ hlB)))⟩⟩
 | exit id =>
  obtain ⟨hk3, hi3⟩ := hp
  obtain ⟨h1, h2, h3, h4⟩ := fin (some (.exit id)) W3 hk3
  exact ⟨_, _, h1, .inr ⟨rfl, ⟨.exit id, hIx _ _ _ _ h2.x hi3, h3, h4⟩, (hkf.mono (by omega)).trans ((keepsX_putObj _ _ hlB).trans ((hk3.mono (by omega)).trans (keepsX_putObj _ _ hlB)))⟩⟩
 | goto t =>
  obtain ⟨hk3, hi3⟩ := hp
  obtain ⟨h1, h2, h3, h4⟩ := fin (some (.goto t)) W3 hk3
  exact ⟨_, _, h1, .inr ⟨rfl, ⟨.goto t, hIx _ _ _ _ h2.x hi3, h3, h4⟩, (hkf.mono (by omega)).trans ((keepsX_putObj _ _ hlB).trans ((hk3.mono (by omega)).trans (keepsX_putObj _ _ hlB)))⟩⟩
 | panic ch => exact hp.elim
 | outgrown => exact hp.elim

/-- the statement, outside of every round -/
theorem range_lawY (hg : a.eval g = .func (.func gf) #[] lb) (eg : ∀ args w, (callFunc gf args).run P w = .ok (.enter gf args) w)
  (hseq : SeqY P N gf lb encs R Adm S Sp) (hps : ∀ x, (encs x).size = ps.size) (I : List α → World → Prop) (Ix : Code → List α → World → Prop)
  (hI : ∀ s, StX N w.heap.size (I s)) (hIx : ∀ c s, StX N w.heap.size (Ix c s)) (hR : St w.heap.size R) (hAdm : ∀ pre x, St w.heap.size (Adm pre x)) (h0 : I [] w) (hR0 : R w)
  (Ax : α → Act → World → Prop) (hAx : ∀ x a', St w.heap.size (Ax x a'))
  (hassign : ∀ (l : Nat) (pre : List α) (x : α) (W : World) (K : Act → World → Prop), I pre W → R W → Adm pre x W → (∀ a' W', KeepsX N w.heap.size W W' → R W' → I pre W' → Adm pre x W' → Ax x a' W' → K a' W') →
   assign.wpIn (Fence.wide.inRound l) 0 P (Exit.then K (fun _ _ _ => False)) { tmps := (ps.zip (encs x)).foldl (fun t (p, v) => t.setIfInBounds p v) a.tmps, defers := [] } W)
  (hbody : ∀ (l : Nat) (pre : List α) (x : α) (a' : Act) (W : World), w.heap.size ≤ l → (∃ r, W.heap[l]? = some (.loop r)) → I pre W → R W → Adm pre x W → Ax x a' W →
   body.wpIn (Fence.wide.inRound l) 0 P (rpostX N w.heap.size R I Ix (pre ++ [x]) W) a' W)
  (hdone : ∀ (D : Nat) (xs : List α) (W : World), w.heap.size ≤ D → S xs W → I xs W → R W → W.heap[D]? = some (.deferred (some [])) → Q .normal { a with defers := { target := .collected D, args := #[] } :: a.defers } W)
  (hstop : ∀ (D : Nat) (c : Code) (pre : List α) (W : World), w.heap.size ≤ D → Sp pre W → Ix c pre W → W.heap[D]? = some (.deferred (some [])) →
   c.wpIn Fence.wide 0 P Q { a with defers := { target := .collected D, args := #[] } :: a.defers } W)
  (hS : ∀ xs, St w.heap.size (S xs)) (hSp : ∀ xs, St w.heap.size (Sp xs)) :
  (Code.rangeFunc g ps assign body).wpIn Fence.wide 0 P Q a w := by
 refine wpIn_rangeFunc ?_
 intro fn hfn
 obtain ⟨rec, hrec⟩ : ∃ rec : LoopState → Option Code → Loop, rec = fun st pe => { state := st, pending := pe, fn, tmps := a.tmps, params := ps, assign, body, defers := w.heap.size } := ⟨_, rfl⟩
 obtain ⟨W1, hW1⟩ : ∃ W1, (w.alloc (.deferred (some []))).alloc (.loop (rec .ready none)) = W1 := ⟨_, rfl⟩
 have hL1 : W1.heap[w.heap.size + 1]? = some (.loop (rec .ready none)) := by
  rw [← hW1]; have := World.alloc_heap_new (w.alloc (.deferred (some []))) (.loop (rec .ready none)); rwa [World.size_alloc] at this
 have hK1 : W1.heap[w.heap.size]? = some (.deferred (some [])) := by
  rw [← hW1]; exact (Below.heap_alloc _ _ _ (by simp)).trans (World.alloc_heap_new w _)
 have k1 : Kept w.heap.size w W1 := by rw [← hW1]; exact (Kept.alloc _ _ _).trans (Kept.alloc _ _ _)
 refine ⟨w.heap.size + 1, [{ target := .collected w.heap.size, args := #[] }], W1, { target := .fn (.func gf) lb, args := #[.func (.yield (w.heap.size + 1)) #[] #[]] }, W1, gf,
  #[.func (.yield (w.heap.size + 1)) #[] #[]] ++ lb, W1, ?_, ?_, ?_, ?_, (fun h => (by cases h)), ?_⟩
 ·rw [← hW1, hrec]; exact run_enterLoop_outer _ _ _ _ _
 ·simp only [resolve, hg]
  simp [go_sem]
 ·intro f' hf'; simp [Target.leads] at hf'; subst hf'; exact trivial
 ·simp [invoke, go_sem, eg]
 ·refine callsIn_wide.2 ((hseq (w.heap.size + 1)
   (fun pre W => I pre W ∧ W.heap[w.heap.size + 1]? = some (.loop (rec .ready none)) ∧ W.heap[w.heap.size]? = some (.deferred (some [])))
   (fun pre W => ∃ c, Ix c pre W ∧ W.heap[w.heap.size + 1]? = some (.loop (rec .done (some c))) ∧ W.heap[w.heap.size]? = some (.deferred (some [])))
   W1 ?_ ?_ ?_ ⟨hI _ _ _ k1.x h0, hL1, hK1⟩ (hR _ _ k1 hR0)).mono ?_)
  ·rintro s A C hk ⟨h1, h2, h3⟩
   have hs : w.heap.size + 1 < W1.heap.size := (Array.getElem?_eq_some_iff.1 hL1).1
   exact ⟨hI _ _ _ (hk.mono (by omega)) h1, hk.same _ _ h2 (.inr hs), hk.same _ _ h3 (.inr (by omega))⟩
  ·rintro s A C hk ⟨c, h1, h2, h3⟩
   have hs : w.heap.size + 1 < W1.heap.size := (Array.getElem?_eq_some_iff.1 hL1).1
   exact ⟨c, hIx _ _ _ _ (hk.mono (by omega)) h1, hk.same _ _ h2 (.inr hs), hk.same _ _ h3 (.inr (by omega))⟩
  ·rintro pre x W ⟨hi, hl, hk⟩ hr ha
   have hs1 : w.heap.size + 1 < W1.heap.size := (Array.getElem?_eq_some_iff.1 hL1).1
   exact round_lawY (fun _ => trivial) (l := w.heap.size + 1) (B := w.heap.size) (by omega) hs1 (X := fun W => W.heap[w.heap.size]? = some (.deferred (some []))) (fun A C hk hx => hk.same _ _ (Nat.le_refl _) hx (.inl rfl)) (fun A o hx => (World.putObj_heap_other (by omega)).trans hx)
    (fun st pe => by rw [hrec]) hps I Ix hI hIx hR hAdm Ax hAx (hassign _) (fun pre x a' W => hbody _ pre x a' W (by omega)) pre x W hi hr hl hk ha
  ·rintro e W2 ⟨⟨v, rfl⟩, (⟨xs, hS2, ⟨hi, hl, hk⟩, hr⟩ | ⟨pre, hSp2, c, hi, hl, hk⟩)⟩
   ·have kp := Kept.putObj (B := w.heap.size) (.loop { rec .ready none with state := .exhausted }) (by omega) hl rfl
    exact ⟨none, _, by have := run_endLoop (P := P) hl (by rw [hrec]; simp); rw [hrec] at this ⊢; exact this, hdone _ xs _ (Nat.le_refl _) (hS _ _ _ kp hS2) (hI _ _ _ kp.x hi) (hR _ _ kp hr) ((World.putObj_heap_other (by omega)).trans hk)⟩
   ·have kp := Kept.putObj (B := w.heap.size) (.loop { rec .done (some c) with state := .exhausted }) (by omega) hl rfl
    exact ⟨some c, _, by have := run_endLoop (P := P) hl (by rw [hrec]; simp); rw [hrec] at this ⊢; exact this, hstop _ c pre _ (Nat.le_refl _) (hSp _ _ _ kp hSp2) (hIx _ _ _ _ kp.x hi) ((World.putObj_heap_other (by omega)).trans hk)⟩

end

section
variable {P : Program} {N : TypeId → Bool} {α : Type} {g : Operand} {ps : Array Tmp} {assign body : Code} {Q : Exit → Act → World → Prop} {a : Act} {w : World} {gf : Nat} {lb : Array Value}
 {encs : α → Array Value} {Adm : List α → α → World → Prop} {S Sp : List α → World → Prop} {R : World → Prop}

end


/-- the statement, outside of every round, whose assignments lay each thing in a block of its own -/
theorem range_boxY {N : TypeId → Bool} {P : Program} {α : Type} {g : Operand} {ps : Array Tmp} {assign body : Code} {Q : Exit → Act → World → Prop} {a : Act} {w : World} {gf : Nat} {lb : Array Value}
  {encs : α → Array Value} {Adm : List α → α → World → Prop} {S Sp : List α → World → Prop} {R : World → Prop}
  (hg : a.eval g = .func (.func gf) #[] lb) (eg : ∀ args w, (callFunc gf args).run P w = .ok (.enter gf args) w)
  (hseq : SeqY P N gf lb encs R Adm S Sp) (hps : ∀ x, (encs x).size = ps.size) (I : List α → World → Prop) (Ix : Code → List α → World → Prop)
  (hI : ∀ s, StX N w.heap.size (I s)) (hIx : ∀ c s, StX N w.heap.size (Ix c s)) (hR : ∀ B, St B R) (hAdm : ∀ pre x, St w.heap.size (Adm pre x)) (hS : ∀ xs, St w.heap.size (S xs)) (hSp : ∀ xs, St w.heap.size (Sp xs))
  (hsz : ∀ pre W, I pre W → w.heap.size ≤ W.heap.size) (h0 : I [] w) (hR0 : R w)
  (mk : Nat → α → Act) (cs : α → Array Value) (tI : TypeId)
  (hassign : ∀ (l : Nat) (x : α) (j : Nat) (W : World) (K : Act → World → Prop), W.heap.size = j → K (mk j x) (W.alloc (.cells (cs x) tI)) →
   assign.wpIn (Fence.wide.inRound l) 0 P (Exit.then K (fun _ _ _ => False)) { tmps := (ps.zip (encs x)).foldl (fun t (p, v) => t.setIfInBounds p v) a.tmps, defers := [] } W)
  (hbody : ∀ (l : Nat) (pre : List α) (x : α) (j : Nat) (W : World), w.heap.size ≤ l → (∃ r, W.heap[l]? = some (.loop r)) → I pre W → R W → Adm pre x W → w.heap.size ≤ j → W.heap[j]? = some (.cells (cs x) tI (0, 0)) →
   body.wpIn (Fence.wide.inRound l) 0 P (rpostX N w.heap.size R I Ix (pre ++ [x]) W) (mk j x) W)
  (hdone : ∀ (D : Nat) (xs : List α) (W : World), w.heap.size ≤ D → S xs W → I xs W → R W → W.heap[D]? = some (.deferred (some [])) → Q .normal { a with defers := { target := .collected D, args := #[] } :: a.defers } W)
  (hstop : ∀ (D : Nat) (c : Code) (pre : List α) (W : World), w.heap.size ≤ D → Sp pre W → Ix c pre W → W.heap[D]? = some (.deferred (some [])) →
   c.wpIn Fence.wide 0 P Q { a with defers := { target := .collected D, args := #[] } :: a.defers } W) :
  (Code.rangeFunc g ps assign body).wpIn Fence.wide 0 P Q a w :=
 range_lawY hg eg hseq hps I Ix hI hIx (hR _) hAdm h0 hR0 (fun x a' W => ∃ j, w.heap.size ≤ j ∧ a' = mk j x ∧ W.heap[j]? = some (.cells (cs x) tI (0, 0)))
  (fun _ _ _ _ hk ⟨j, h1, h2, h3⟩ => ⟨j, h1, h2, hk.same _ _ h3 (.inl rfl)⟩)
  (fun l pre x W K hi hr ha hK => hassign l x _ W K rfl (hK _ _ (KeepsX.alloc _ W _) (hR 0 _ _ (Kept.alloc _ _ _) hr) (hI _ _ _ (Kept.alloc _ _ _).x hi) (hAdm _ _ _ _ (Kept.alloc _ _ _) ha) ⟨_, hsz _ _ hi, rfl, World.alloc_heap_new W _⟩))
  (fun l pre x a' W hl hr2 hi hr ha hax => by obtain ⟨j, hj, rfl, hb⟩ := hax; exact hbody l pre x j W hl hr2 hi hr ha hj hb) hdone hstop hS hSp



end Go.Proofs.YtempicociampoaaGreatDoor
namespace Go.Proofs.YtempicociampoaaGreatDoor
open Go.RowKit

section
variable {F : Fence} {n : Nat} {P : Program} {ops : Array Oper} {Q : Exit → Act → World → Prop} {md : Region.Mode} {S : World → Prop}

/-- it yields in every world that meets S, and is about to make no call -/
def YieldsHF (P : Program) (ops : Array Oper) (S : World → Prop) (o : Oper) (v : Value) (a : Act) : Prop := YieldsIf P ops S o v a ∧ ∀ w, o.about P w a.eval = none

theorem YieldsHF.op {i : Nat} {o : Oper} {v : Value} {a : Act} (hro : F.round = none) (hi : ops[i]? = some o) (hy : YieldsHF P ops S o v a) {K : Act → World → Prop} {w : World} (hS : S w) (h : K (a.put o.dst v) w) : wpOpIn F n P ops Q i K a w := by
 have hab : ∀ f, o.about P w a.eval = some f → F.fn f := fun f hf => by rw [hy.2 w] at hf; cases hf
 unfold wpOpIn
 simp only [hi]
 rcases hy.1 with ⟨hw, hv⟩ | ⟨hw, rfl⟩
 ·simp only [hw, if_true, Oper.wpIn, hro, Oper.semAt_none, hv w hS, Oper.uponIn]
  exact ⟨hab, h⟩
 ·simp only [hw, Bool.false_eq_true, if_false]
  exact ⟨hab, h⟩
theorem YieldsHF.same {o : Oper} {v : Value} {a a' : Act} (hy : YieldsHF P ops S o v a) (he : execOp a'.eval o = execOp a.eval o) (hw : Region.wanted o (yielded ops a'.tmps) = Region.wanted o (yielded ops a.tmps))
  (hb : ∀ w, o.about P w a'.eval = o.about P w a.eval) : YieldsHF P ops S o v a' :=
 ⟨hy.1.of_same he hw, fun w => by rw [hb w]; exact hy.2 w⟩

/-- an operation apart from oi does the same whether oi's value lies there or not -/
theorem opIn_putH {j : Nat} {oi oj : Oper} {v : Value} (hro : F.round = none) (hj : ops[j]? = some oj) (hap : oi.apart ops oj = true) (hsi : ∀ cs b, oi.op ≠ .select cs b) (hsj : ∀ cs b, oj.op ≠ .select cs b)
  (hQ : ∀ c a w, Q (.panic c) (a.put oi.dst v) w → Q (.panic c) a w) {K : Act → World → Prop} {a : Act} {w : World} (hy : YieldsHF P ops S oi v a) (h : wpOpIn F n P ops Q j K (a.put oi.dst v) w) :
  wpOpIn F n P ops Q j (fun a' w' => YieldsHF P ops S oi v a' ∧ K (a'.put oi.dst v) w') a w := by
 obtain ⟨h1, h2, h3⟩ := Oper.apart_spec hap
 have keep : ∀ (a : Act), YieldsHF P ops S oi v a → ∀ u, YieldsHF P ops S oi v (a.put oj.dst u) := fun a hy u => hy.same (execOp_put oi hsi a oj.dst u h3) (wanted_put oi a oj.dst u h3) fun w => about_put oi w a oj.dst u h3
 have keepD : ∀ d, YieldsHF P ops S oi v { a with defers := d :: a.defers } := fun d => hy.same rfl rfl fun _ => rfl
 unfold wpOpIn at *
 simp only [hj] at *
 rw [wanted_put oj a oi.dst v h1, about_put oj w a oi.dst v h1] at h
 split
 ·rename_i hw
  simp only [hw, if_true] at h
  unfold Oper.wpIn at *
  rw [about_put oj w a oi.dst v h1] at h
  refine ⟨h.1, ?_⟩
  replace h := h.2
  rw [hro, Oper.semAt_none, execOp_put oj hsj a oi.dst v h1] at h
  rw [hro, Oper.semAt_none]
  generalize (execOp a.eval oj).run P w = r at *
  cases r with
  | ok x w' =>
   cases x <;> simp only [Oper.uponIn] at h ⊢
   case value u => exact ⟨keep a hy u, by rw [← Act.put_comm a v u h2]; exact h⟩
   case skip => exact ⟨keep a hy _, by rw [← Act.put_comm a v undef h2]; exact h⟩
   case defer d =>
    refine ⟨keep _ (keepD d) _, ?_⟩
    rw [← Act.put_comm _ v undef h2, ← Act.put_defers]
    exact h
   case enter f args =>
    refine ⟨h.1, CallsIn.mono h.2 fun e w'' he => ?_⟩
    cases e with
    | returned u => exact ⟨keep a hy u, by rw [← Act.put_comm a v u h2]; exact he⟩
    | panicked c => exact hQ _ _ _ he
    | outgrown => exact he
   case row row args => exact ⟨h.1, RowsIn.mono h.2 fun u w'' he => ⟨keep a hy u, by rw [← Act.put_comm a v u h2]; exact he⟩⟩
   case round l f tmps assign body =>
    refine ⟨h.1, RoundIn.mono h.2 fun e w'' he => ?_⟩
    cases e with
    | returned u => exact ⟨keep a hy u, by rw [← Act.put_comm a v u h2]; exact he⟩
    | panicked c => exact hQ _ _ _ he
    | outgrown => exact he
  | halt x w' =>
   cases x <;> simp only [Oper.uponIn] at h ⊢
   case panic u => exact hQ _ _ _ h
 ·rename_i hw
  simp only [hw] at h
  exact ⟨h.1, keep a hy _, by rw [← Act.put_comm a v undef h2]; exact h.2⟩

/-- whatever order is picked; S behind each act -/
def wpAnyInH (F : Fence) (n : Nat) (P : Program) (md : Region.Mode) (ops : Array Oper) (Q : Exit → Act → World → Prop) (S : World → Prop) : Nat → Array Bool → Act → World → Prop
 | 0, listed, a, w => Region.ready md ops listed = [] ∧ Q .normal a w
 | fuel + 1, listed, a, w => (Region.ready md ops listed = [] → Q .normal a w) ∧
  ∀ i ∈ Region.ready md ops listed, wpOpIn F n P ops Q i (fun a' w' => S w' ∧ wpAnyInH F n P md ops Q S fuel (listed.setIfInBounds i true) a' w') a w
theorem anyIn_of_held : ∀ (fuel : Nat) (listed : Array Bool) (a : Act) (w : World), wpAnyInH F n P md ops Q S fuel listed a w → wpAnyIn F n P md ops Q fuel listed a w
 | 0, _, _, _, h => h
 | fuel + 1, _, _, _, h => ⟨h.1, fun i hi => wpOpIn_mono (fun a' w' h' => anyIn_of_held fuel _ a' w' h'.2) (h.2 i hi)⟩

theorem wpAnyInH_first {i : Nat} {oi : Oper} {v : Value} (hro : F.round = none) (hi : ops[i]? = some oi) (hsel : ∀ (j : Nat) (o : Oper) cs b, ops[j]? = some o → o.op ≠ .select cs b)
  (hQ : ∀ c a w, Q (.panic c) (a.put oi.dst v) w → Q (.panic c) a w) : ∀ (fuel : Nat) (listed : Array Bool) (a : Act) (w : World),
   (∀ j oj, ops[j]? = some oj → j ≠ i → listed.getD j true = false → (∀ e ∈ oj.after, Region.binds md e = true → e.on ≠ i) → oi.apart ops oj = true) →
   i ∈ Region.ready md ops listed → YieldsHF P ops S oi v a → S w → wpAnyInH F n P md ops Q S fuel (listed.setIfInBounds i true) (a.put oi.dst v) w → wpAnyInH F n P md ops Q S (fuel + 1) listed a w := by
 intro fuel
 induction fuel with
 | zero =>
  intro listed a w _ hr hy hS H
  refine ⟨fun h => (by rw [h] at hr; cases hr), fun j hj => ?_⟩
  by_cases hji : j = i
  ·subst hji; exact hy.op hro hi hS ⟨hS, H⟩
  ·have := ready_mono hj hji
   rw [H.1] at this
   cases this
 | succ fuel ih =>
  intro listed a w hfree hr hy hS H
  refine ⟨fun h => (by rw [h] at hr; cases hr), fun j hj => ?_⟩
  by_cases hji : j = i
  ·subst hji; exact hy.op hro hi hS ⟨hS, H⟩
  ·have h1 := H.2 j (ready_mono hj hji)
   obtain ⟨hjun, oj, hoj, hall⟩ := mem_ready.1 hj
   have hnot : ∀ e ∈ oj.after, Region.binds md e = true → e.on ≠ i := fun e he hb heq => by
    have h1 := hall e he hb
    have h0 := (mem_ready.1 hr).1
    rw [heq] at h1
    rcases Nat.lt_or_ge i listed.size with h' | h'
    ·simp [h'] at h0 h1; rw [h0] at h1; cases h1
    ·simp [Array.getElem?_eq_none h'] at h1
   have h2 := opIn_putH hro hoj (hfree j oj hoj hji hjun hnot) (fun cs b => hsel i oi cs b hi) (fun cs b => hsel j oj cs b hoj) hQ hy h1
   have hfree' : ∀ k ok, ops[k]? = some ok → k ≠ i → (listed.setIfInBounds j true).getD k true = false → (∀ e ∈ ok.after, Region.binds md e = true → e.on ≠ i) → oi.apart ops ok = true := fun k ok hk hki hun hno => by
    refine hfree k ok hk hki ?_ hno
    by_cases hjk : j = k
    ·subst hjk; exact hjun
    ·rw [getD_set_ne true hjk] at hun; exact hun
   refine wpOpIn_mono (fun a' w' h3 => ⟨h3.2.1, ih (listed.setIfInBounds j true) a' w' hfree' (ready_mono hr (Ne.symm hji)) h3.1 h3.2.1 ?_⟩) h2
   rw [Array.setIfInBounds_comm _ _ hji]
   exact h3.2.2

theorem wpAnyInH_take {i : Nat} {oi : Oper} {v : Value} {fuel : Nat} {listed : Array Bool} {a : Act} {w : World} (hro : F.round = none) (hi : ops[i]? = some oi)
  (hs : Region.noSelect ops = true) (hf : Region.free md ops listed i = true) (hr : (Region.ready md ops listed).contains i = true)
  (hQ : ∀ c a w, Q (.panic c) (a.put oi.dst v) w → Q (.panic c) a w) (hy : YieldsIf P ops S oi v a) (hab : ∀ w, oi.about P w a.eval = none) (hS : S w)
  (h : wpAnyInH F n P md ops Q S fuel (listed.setIfInBounds i true) (a.put oi.dst v) w) : wpAnyInH F n P md ops Q S (fuel + 1) listed a w :=
 wpAnyInH_first hro hi (Region.noSelect_spec hs) hQ fuel listed a w (Region.free_spec hi hf) (by simpa using hr) ⟨hy, hab⟩ hS h
theorem wpAnyInH_done {listed : Array Bool} {a : Act} {w : World} (hr : Region.ready md ops listed = []) (h : Q .normal a w) : ∀ fuel, wpAnyInH F n P md ops Q S fuel listed a w
 | 0 => ⟨hr, h⟩
 | _ + 1 => ⟨fun _ => h, by rw [hr]; simp⟩
def AllReadyInH (F : Fence) (n : Nat) (P : Program) (md : Region.Mode) (ops : Array Oper) (Q : Exit → Act → World → Prop) (S : World → Prop) (fuel : Nat) (listed : Array Bool) (a : Act) (w : World) (rs : List Nat) : Prop :=
 ∀ i ∈ rs, wpOpIn F n P ops Q i (fun a' w' => S w' ∧ wpAnyInH F n P md ops Q S fuel (listed.setIfInBounds i true) a' w') a w
theorem AllReadyInH.nil {fuel : Nat} {listed : Array Bool} {a : Act} {w : World} : AllReadyInH F n P md ops Q S fuel listed a w [] := fun _ h => by cases h
theorem AllReadyInH.cons {fuel : Nat} {listed : Array Bool} {a : Act} {w : World} {i : Nat} {o : Oper} {rs : List Nat} (ho : ops[i]? = some o)
  (h : ∀ K' : Act → World → Prop, Shut (∀ a w, S w → (S w → wpAnyInH F n P md ops Q S fuel (listed.setIfInBounds i true) a w) → K' a w) → if Region.wanted o (yielded ops a.tmps) = true then Oper.wpIn F n P o a w K' Q else (∀ f, o.about P w a.eval = some f → F.fn f) ∧ K' (a.put o.dst undef) w)
  (hs : AllReadyInH F n P md ops Q S fuel listed a w rs) : AllReadyInH F n P md ops Q S fuel listed a w (i :: rs) := fun j hj => by
 rcases List.mem_cons.1 hj with rfl | hj
 ·exact wpOpIn_step ho (fun K' hK => h K' (fun a w hS hW => hK a w ⟨hS, hW hS⟩))
 ·exact hs j hj
theorem wpAnyInH_ready {rs : List Nat} {fuel : Nat} {listed : Array Bool} {a : Act} {w : World} (hr : Region.ready md ops listed = rs) (hne : rs ≠ []) (h : AllReadyInH F n P md ops Q S fuel listed a w rs) : wpAnyInH F n P md ops Q S (fuel + 1) listed a w :=
 ⟨fun h0 => absurd (hr ▸ h0) hne, hr ▸ h⟩
/-- the beginning, inside of a fence that is in no round -/
theorem region_heldIn {id : Nat} {a : Act} {w : World} (hm : P.follows .mixedOrders = true) (hS : S w.drew) (h : S w.drew → wpAnyInH F n P .any ops Q S ops.size (Array.replicate ops.size false) a w.drew) : (Code.region id ops true).wpIn F n P Q a w :=
 wpIn_region_any hm (anyIn_of_held _ _ _ _ (h hS))
end
end Go.Proofs.YtempicociampoaaGreatDoor
