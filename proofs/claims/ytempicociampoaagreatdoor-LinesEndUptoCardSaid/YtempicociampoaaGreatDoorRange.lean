/- Ranges over a function: one law of ours, with what the iterator tells of each thing that it hands out. -/
import Derived.Test.YtempicociampoaaGreatDoorJ0
import Derived.RangeFuncNested
import Derived.RangeFuncBound
import Derived.RangeFuncCalls
import Derived.RangeFuncLeaves
import Derived.RangeFuncBox
import Derived.Shelf.Abstract
import Derived.Shelf.RegionOpen
import Derived.OwnWalkIn
import Derived.TacticsInMore
import Derived.LoopNIn
import Derived.LoopIn
namespace Go.Proofs.YtempicociampoaaGreatDoor
open Go.RowKit

/-- all cells stand, and whatever lies below B: an iterator's own steps, and the statement's book-keeping -/
structure Kept (B : Nat) (A C : World) : Prop where
 os : C.os = A.os
 tape : C.tape = A.tape
 output : C.output = A.output
 size : A.heap.size ≤ C.heap.size
 same : ∀ k o, A.heap[k]? = some o → (o.isCells = true ∨ k < B) → C.heap[k]? = some o

def St (B : Nat) (I : World → Prop) : Prop := ∀ A C, Kept B A C → I A → I C

theorem Kept.refl (B : Nat) (A : World) : Kept B A A := ⟨rfl, rfl, rfl, Nat.le_refl _, fun _ _ h _ => h⟩
theorem Kept.trans {B : Nat} {A C D : World} (h : Kept B A C) (k : Kept B C D) : Kept B A D :=
 ⟨k.os.trans h.os, k.tape.trans h.tape, k.output.trans h.output, Nat.le_trans h.size k.size, fun i o hi ho => k.same i o (h.same i o hi ho) ho⟩
theorem Kept.alloc (B : Nat) (A : World) (o : Obj) : Kept B A (A.alloc o) :=
 ⟨rfl, rfl, rfl, by simp, fun k o' hk _ => (Below.heap_alloc A o k (Array.getElem?_eq_some_iff.1 hk).1).trans hk⟩
theorem Kept.drewN (B : Nat) (A : World) (n : Nat) : Kept B A (A.drewN n) := ⟨rfl, rfl, rfl, Nat.le_refl _, fun _ _ h _ => h⟩
theorem Kept.drew (B : Nat) (A : World) : Kept B A A.drew := ⟨rfl, rfl, rfl, Nat.le_refl _, fun _ _ h _ => h⟩
theorem Kept.putObj {B : Nat} {A : World} {l : Nat} {o : Obj} (o' : Obj) (hB : B ≤ l) (hl : A.heap[l]? = some o) (ho : o.isCells = false) : Kept B A (A.putObj l o') :=
 ⟨rfl, rfl, rfl, by simp [World.putObj], fun k o2 hk h2 => by
  by_cases e : k = l
  ·subst e; rw [hl] at hk; cases hk
   rcases h2 with h2 | h2
   ·rw [ho] at h2; cases h2
   ·omega
  ·exact (World.putObj_heap_other e).trans hk⟩
theorem Kept.of_below {A C : World} (h : Below A.heap.size A C) (B : Nat) : Kept B A C :=
 ⟨h.os, h.tape, h.output, h.size, fun k _o hk _ => (h.block k (Array.getElem?_eq_some_iff.1 hk).1).trans hk⟩
theorem Kept.mono {B B' : Nat} {A C : World} (h : Kept B A C) (hB : B' ≤ B) : Kept B' A C :=
 ⟨h.os, h.tape, h.output, h.size, fun k o hk ho => h.same k o hk (ho.imp id (fun h => by omega))⟩
theorem Kept.cell {B : Nat} {A C : World} (h : Kept B A C) {p : Addr} {v : Value} (hc : A.cell? p = some v) : C.cell? p = some v := by
 unfold World.cell? at hc ⊢
 cases ho : A.heap[p.block]? with
 | none => simp [ho] at hc
 | some o =>
  cases o with
  | cells cs t fr => rw [h.same _ _ ho (.inl rfl)]; rw [ho] at hc; exact hc
  | _ => simp [ho] at hc
theorem Kept.frozen {B : Nat} {A C : World} (h : Kept B A C) {p : Addr} {v : Value} (hc : A.cell? p = some v) : C.frozen? p = A.frozen? p := by
 unfold World.cell? at hc
 cases ho : A.heap[p.block]? with
 | none => simp [ho] at hc
 | some o =>
  cases o with
  | cells cs t fr => exact World.frozen?_of_block (by rw [h.same _ _ ho (.inl rfl), ho])
  | _ => simp [ho] at hc
theorem Kept.below {B n₀ : Nat} {w0 A C : World} (h : Kept B A C) (hn : n₀ ≤ B) (hn0 : n₀ ≤ w0.heap.size) (hb : Below n₀ w0 A) : Below n₀ w0 C :=
 ⟨h.os.trans hb.os, h.tape.trans hb.tape, h.output.trans hb.output, Nat.le_trans hb.size h.size, fun k hk => by
  have e := hb.block k hk
  obtain ⟨o, ho⟩ : ∃ o, A.heap[k]? = some o := by
   have : k < A.heap.size := Nat.lt_of_lt_of_le (Nat.lt_of_lt_of_le hk hn0) hb.size
   exact ⟨_, Array.getElem?_eq_getElem this⟩
  rw [h.same k o ho (.inr (by omega)), ← ho, e]⟩
theorem Kept.range {B : Nat} {A C : World} (h : Kept B A C) {b o : Nat} {cs : List Value} (hc : A.rangeAt b o cs) : C.rangeAt b o cs := fun j v hv => h.cell (hc j v hv)
theorem Kept.sl {α : Type} {B : Nat} {A C : World} (h : Kept B A C) {k : Nat} {enc : α → List Value} {v : Value} {l : List α} (hs : Sl A k enc v l) : Sl C k enc v l :=
 hs.imp id fun ⟨a, cap, e, h1, h2, h3, h4⟩ => ⟨a, cap, e, h1, h2, h3, fun i x hi => h.range (h4 i x hi)⟩

/-- the iterator's word: each thing that it hands out comes with 'Adm'; R: what it reads -/
def Seq {α : Type} (P : Program) (gf : Nat) (lb : Array Value) (encs : α → Array Value) (R : World → Prop) (Adm : List α → α → World → Prop) (S Sp : List α → World → Prop) : Prop :=
 ∀ (l : Nat) (J Jx : List α → World → Prop) (W : World), (∀ s, St W.heap.size (J s)) → (∀ s, St W.heap.size (Jx s)) →
  (∀ pre x W1, J pre W1 → R W1 → Adm pre x W1 → YieldAt Fence.wide 0 P l (encs x) W1 fun e W' =>
   (e = .returned (.bool true) ∧ J (pre ++ [x]) W' ∧ R W' ∧ KeepsFrom W.heap.size W1 W') ∨ (e = .returned (.bool false) ∧ Jx (pre ++ [x]) W')) →
  J [] W → R W →
  Calls P gf (#[.func (.yield l) #[] #[]] ++ lb) W fun e W' => (∃ v, e = .returned v) ∧ ((∃ xs, S xs W' ∧ J xs W' ∧ R W') ∨ (∃ pre, Sp pre W' ∧ Jx pre W'))

/-- how a round's body may be left -/
def rpost {α : Type} (B : Nat) (R : World → Prop) (I : List α → World → Prop) (Ix : Code → List α → World → Prop) (xs : List α) (W : World) : Exit → Act → World → Prop
 | .normal, _, W' => KeepsFrom B W W' ∧ R W' ∧ I xs W'
 | .ret, _, W' => KeepsFrom B W W' ∧ Ix .ret xs W'
 | .exit id, _, W' => KeepsFrom B W W' ∧ Ix (.exit id) xs W'
 | .goto t, _, W' => KeepsFrom B W W' ∧ Ix (.goto t) xs W'
 | .panic _, _, _ => False
 | .outgrown, _, _ => False

theorem keepsFrom_putObj {B l : Nat} (W : World) (o : Obj) (h : l < B) : KeepsFrom B W (W.putObj l o) :=
 ⟨by simp [World.putObj], fun k o' hB hk _ => (World.putObj_heap_other (by omega)).trans hk⟩
theorem _root_.Go.KeepsFrom.mono {B B' : Nat} {W W' : World} (h : KeepsFrom B W W') (hB : B ≤ B') : KeepsFrom B' W W' := ⟨h.size, fun k o hk h1 h2 => h.same k o (by omega) h1 h2⟩

section
variable {P : Program} {α : Type} {g : Operand} {ps : Array Tmp} {assign body : Code} {Q : Exit → Act → World → Prop} {a : Act} {w : World} {gf : Nat} {lb : Array Value}
 {encs : α → Array Value} {Adm : List α → α → World → Prop} {S Sp : List α → World → Prop} {R : World → Prop}

/-- one round, its record at l, whatever book-keeping block lies at D -/
theorem round_law {F : Fence} (hF : ∀ f, F.fn f) {l : Nat} {rec : LoopState → Option Code → Loop} {fn : FuncId} {B B' : Nat} (hl1 : B ≤ l) (hlB : l < B') {X : World → Prop} (hX : ∀ A C, KeepsFrom B A C → X A → X C) (hX2 : ∀ A o, X A → X (A.putObj l o))
  (hrec : ∀ st pe, rec st pe = { state := st, pending := pe, fn := fn, tmps := a.tmps, params := ps, assign := assign, body := body, defers := (rec .ready none).defers })
  (hps : ∀ x, (encs x).size = ps.size) (I : List α → World → Prop) (Ix : Code → List α → World → Prop)
  (hI : ∀ s, St B (I s)) (hIx : ∀ c s, St B (Ix c s)) (hR : St B R) (hAdm : ∀ pre x, St B (Adm pre x)) (Ax : α → Act → World → Prop) (hAx : ∀ x a', St B (Ax x a'))
  (hassign : ∀ (pre : List α) (x : α) (W : World) (K : Act → World → Prop), I pre W → R W → Adm pre x W → (∀ a' W', KeepsFrom B W W' → R W' → I pre W' → Adm pre x W' → Ax x a' W' → K a' W') →
   assign.wpIn (F.inRound l) 0 P (Exit.then K (fun _ _ _ => False)) { tmps := (ps.zip (encs x)).foldl (fun t (p, v) => t.setIfInBounds p v) a.tmps, defers := [] } W)
  (hbody : ∀ (pre : List α) (x : α) (a' : Act) (W : World), (∃ r, W.heap[l]? = some (.loop r)) → I pre W → R W → Adm pre x W → Ax x a' W → body.wpIn (F.inRound l) 0 P (rpost B R I Ix (pre ++ [x]) W) a' W)
  (pre : List α) (x : α) (W : World) (hi : I pre W) (hr : R W) (hl : W.heap[l]? = some (.loop (rec .ready none))) (hk : X W) (ha : Adm pre x W) :
  YieldAt F 0 P l (encs x) W fun e W' =>
   (e = .returned (.bool true) ∧ (I (pre ++ [x]) W' ∧ W'.heap[l]? = some (.loop (rec .ready none)) ∧ X W') ∧ R W' ∧ KeepsFrom B' W W') ∨
   (e = .returned (.bool false) ∧ ∃ c, Ix c (pre ++ [x]) W' ∧ W'.heap[l]? = some (.loop (rec .done (some c))) ∧ X W') := by
 have hy := run_yield (P := P) (args := encs x) hl (by rw [hrec]; exact hps x)
 rw [hrec] at hy
 refine ⟨fn, _, assign, body, hy, roundIn_of_wpIn (hF _) (hassign pre x W _ hi hr ha ?_)⟩
 intro a' Wa hkf hra hia hada hax
 have hla := hkf.same _ _ hl1 hl rfl
 have hka := hX _ _ hkf hk
 have hlt : l < Wa.heap.size := (Array.getElem?_eq_some_iff.1 hla).1
 refine ⟨_, run_beginRound hla (by rw [hrec]), ?_⟩
 have kp : Kept B Wa (Wa.putObj l (.loop { rec .ready none with state := .busy })) := Kept.putObj _ hl1 hla rfl
 have hl2 : (Wa.putObj l (.loop { rec .ready none with state := .busy })).heap[l]? = some (.loop { rec .ready none with state := .busy }) := World.putObj_heap_same hlt
 have hk2 := hX2 _ (.loop { rec .ready none with state := .busy }) hka
 refine wpIn_mono (hbody pre x a' _ ⟨_, hl2⟩ (hI _ _ _ kp hia) (hR _ _ kp hra) (hAdm _ _ _ _ kp hada) (hAx _ _ _ _ kp hax)) ?_
 have fin : ∀ (jump : Option Code) (W3 : World), KeepsFrom B (Wa.putObj l (.loop { rec .ready none with state := .busy })) W3 →
   (Instr.endRound l jump).run P W3 = .ok (.bool jump.isNone) (W3.putObj l (.loop (rec (if jump.isNone then .ready else .done) jump))) ∧
   Kept B W3 (W3.putObj l (.loop (rec (if jump.isNone then .ready else .done) jump))) ∧
   (W3.putObj l (.loop (rec (if jump.isNone then .ready else .done) jump))).heap[l]? = some (.loop (rec (if jump.isNone then .ready else .done) jump)) ∧
   X (W3.putObj l (.loop (rec (if jump.isNone then .ready else .done) jump))) := fun jump W3 hk3 => by
  have hl3 := hk3.same _ _ hl1 hl2 rfl
  have := run_endRound (P := P) jump hl3
  rw [hrec] at this
  rw [hrec (if jump.isNone then .ready else .done) jump]
  refine ⟨this, Kept.putObj _ hl1 hl3 rfl, World.putObj_heap_same (Array.getElem?_eq_some_iff.1 hl3).1, hX2 _ _ (hX _ _ hk3 hk2)⟩
 rintro e a3 W3 hp
 cases e with
 | normal =>
  obtain ⟨hk3, hr3, hi3⟩ := hp
  obtain ⟨h1, h2, h3, h4⟩ := fin none W3 hk3
  exact ⟨_, _, h1, .inl ⟨rfl, ⟨hI _ _ _ h2 hi3, h3, h4⟩, hR _ _ h2 hr3, (hkf.mono (by omega)).trans ((keepsFrom_putObj _ _ hlB).trans ((hk3.mono (by omega)).trans (keepsFrom_putObj _ _ hlB)))⟩⟩
 | ret =>
  obtain ⟨hk3, hi3⟩ := hp
  obtain ⟨h1, h2, h3, h4⟩ := fin (some .ret) W3 hk3
  exact ⟨_, _, h1, .inr ⟨rfl, .ret, hIx _ _ _ _ h2 hi3, h3, h4⟩⟩
 | exit id =>
  obtain ⟨hk3, hi3⟩ := hp
  obtain ⟨h1, h2, h3, h4⟩ := fin (some (.exit id)) W3 hk3
  exact ⟨_, _, h1, .inr ⟨rfl, .exit id, hIx _ _ _ _ h2 hi3, h3, h4⟩⟩
 | goto t =>
  obtain ⟨hk3, hi3⟩ := hp
  obtain ⟨h1, h2, h3, h4⟩ := fin (some (.goto t)) W3 hk3
  exact ⟨_, _, h1, .inr ⟨rfl, .goto t, hIx _ _ _ _ h2 hi3, h3, h4⟩⟩
 | panic ch => exact hp.elim
 | outgrown => exact hp.elim

/-- the statement, outside of every round -/
theorem range_law (hg : a.eval g = .func (.func gf) #[] lb) (eg : ∀ args w, (callFunc gf args).run P w = .ok (.enter gf args) w)
  (hseq : Seq P gf lb encs R Adm S Sp) (hps : ∀ x, (encs x).size = ps.size) (I : List α → World → Prop) (Ix : Code → List α → World → Prop)
  (hI : ∀ s, St w.heap.size (I s)) (hIx : ∀ c s, St w.heap.size (Ix c s)) (hR : St w.heap.size R) (hAdm : ∀ pre x, St w.heap.size (Adm pre x)) (h0 : I [] w) (hR0 : R w)
  (Ax : α → Act → World → Prop) (hAx : ∀ x a', St w.heap.size (Ax x a'))
  (hassign : ∀ (l : Nat) (pre : List α) (x : α) (W : World) (K : Act → World → Prop), I pre W → R W → Adm pre x W → (∀ a' W', KeepsFrom w.heap.size W W' → R W' → I pre W' → Adm pre x W' → Ax x a' W' → K a' W') →
   assign.wpIn (Fence.wide.inRound l) 0 P (Exit.then K (fun _ _ _ => False)) { tmps := (ps.zip (encs x)).foldl (fun t (p, v) => t.setIfInBounds p v) a.tmps, defers := [] } W)
  (hbody : ∀ (l : Nat) (pre : List α) (x : α) (a' : Act) (W : World), w.heap.size ≤ l → (∃ r, W.heap[l]? = some (.loop r)) → I pre W → R W → Adm pre x W → Ax x a' W →
   body.wpIn (Fence.wide.inRound l) 0 P (rpost w.heap.size R I Ix (pre ++ [x]) W) a' W)
  (hdone : ∀ (D : Nat) (xs : List α) (W : World), w.heap.size ≤ D → S xs W → I xs W → R W → W.heap[D]? = some (.deferred (some [])) → Q .normal { a with defers := { target := .collected D, args := #[] } :: a.defers } W)
  (hstop : ∀ (D : Nat) (c : Code) (pre : List α) (W : World), w.heap.size ≤ D → Sp pre W → Ix c pre W → W.heap[D]? = some (.deferred (some [])) →
   c.wpIn Fence.wide 0 P Q { a with defers := { target := .collected D, args := #[] } :: a.defers } W)
  (hS : ∀ xs, St w.heap.size (S xs)) (hSp : ∀ xs, St w.heap.size (Sp xs)) :
  (Code.rangeFunc g ps assign body).wpIn Fence.wide 0 P Q a w := by
 refine wpIn_rangeFunc ?_
 intro fn hfn
 obtain ⟨rec, hrec⟩ : ∃ rec : LoopState → Option Code → Loop, rec = fun st pe => { state := st, pending := pe, fn, tmps := a.tmps, params := ps, assign, body, defers := w.heap.size } := ⟨_, rfl⟩
 obtain ⟨W1, hW1⟩ : ∃ W1, (w.alloc (.deferred (some []))).alloc (.loop (rec .ready none)) = W1 := ⟨_, rfl⟩
 have hL1 : W1.heap[w.heap.size + 1]? = some (.loop (rec .ready none)) := by
  rw [← hW1]; have := World.alloc_heap_new (w.alloc (.deferred (some []))) (.loop (rec .ready none)); rwa [World.size_alloc] at this
 have hK1 : W1.heap[w.heap.size]? = some (.deferred (some [])) := by
  rw [← hW1]; exact (Below.heap_alloc _ _ _ (by simp)).trans (World.alloc_heap_new w _)
 have k1 : Kept w.heap.size w W1 := by rw [← hW1]; exact (Kept.alloc _ _ _).trans (Kept.alloc _ _ _)
 refine ⟨w.heap.size + 1, [{ target := .collected w.heap.size, args := #[] }], W1, { target := .fn (.func gf) lb, args := #[.func (.yield (w.heap.size + 1)) #[] #[]] }, W1, gf,
  #[.func (.yield (w.heap.size + 1)) #[] #[]] ++ lb, W1, ?_, ?_, ?_, ?_, (fun h => (by cases h)), ?_⟩
 ·rw [← hW1, hrec]; exact run_enterLoop_outer _ _ _ _ _
 ·simp only [resolve, hg]
  simp [go_sem]
 ·intro f' hf'; simp [Target.leads] at hf'; subst hf'; exact trivial
 ·simp [invoke, go_sem, eg]
 ·refine callsIn_wide.2 ((hseq (w.heap.size + 1)
   (fun pre W => I pre W ∧ W.heap[w.heap.size + 1]? = some (.loop (rec .ready none)) ∧ W.heap[w.heap.size]? = some (.deferred (some [])))
   (fun pre W => ∃ c, Ix c pre W ∧ W.heap[w.heap.size + 1]? = some (.loop (rec .done (some c))) ∧ W.heap[w.heap.size]? = some (.deferred (some [])))
   W1 ?_ ?_ ?_ ⟨hI _ _ _ k1 h0, hL1, hK1⟩ (hR _ _ k1 hR0)).mono ?_)
  ·rintro s A C hk ⟨h1, h2, h3⟩
   have hs : w.heap.size + 1 < W1.heap.size := (Array.getElem?_eq_some_iff.1 hL1).1
   exact ⟨hI _ _ _ (hk.mono (by omega)) h1, hk.same _ _ h2 (.inr hs), hk.same _ _ h3 (.inr (by omega))⟩
  ·rintro s A C hk ⟨c, h1, h2, h3⟩
   have hs : w.heap.size + 1 < W1.heap.size := (Array.getElem?_eq_some_iff.1 hL1).1
   exact ⟨c, hIx _ _ _ _ (hk.mono (by omega)) h1, hk.same _ _ h2 (.inr hs), hk.same _ _ h3 (.inr (by omega))⟩
  ·rintro pre x W ⟨hi, hl, hk⟩ hr ha
   have hs1 : w.heap.size + 1 < W1.heap.size := (Array.getElem?_eq_some_iff.1 hL1).1
   exact round_law (fun _ => trivial) (l := w.heap.size + 1) (B := w.heap.size) (by omega) hs1 (X := fun W => W.heap[w.heap.size]? = some (.deferred (some []))) (fun A C hk hx => hk.same _ _ (Nat.le_refl _) hx rfl) (fun A o hx => (World.putObj_heap_other (by omega)).trans hx)
    (fun st pe => by rw [hrec]) hps I Ix hI hIx hR hAdm Ax hAx (hassign _) (fun pre x a' W => hbody _ pre x a' W (by omega)) pre x W hi hr hl hk ha
  ·rintro e W2 ⟨⟨v, rfl⟩, (⟨xs, hS2, ⟨hi, hl, hk⟩, hr⟩ | ⟨pre, hSp2, c, hi, hl, hk⟩)⟩
   ·have kp := Kept.putObj (B := w.heap.size) (.loop { rec .ready none with state := .exhausted }) (by omega) hl rfl
    exact ⟨none, _, by have := run_endLoop (P := P) hl (by rw [hrec]; simp); rw [hrec] at this ⊢; exact this, hdone _ xs _ (Nat.le_refl _) (hS _ _ _ kp hS2) (hI _ _ _ kp hi) (hR _ _ kp hr) ((World.putObj_heap_other (by omega)).trans hk)⟩
   ·have kp := Kept.putObj (B := w.heap.size) (.loop { rec .done (some c) with state := .exhausted }) (by omega) hl rfl
    exact ⟨some c, _, by have := run_endLoop (P := P) hl (by rw [hrec]; simp); rw [hrec] at this ⊢; exact this, hstop _ c pre _ (Nat.le_refl _) (hSp _ _ _ kp hSp2) (hIx _ _ _ _ kp hi) ((World.putObj_heap_other (by omega)).trans hk)⟩

end

section
variable {P : Program} {α : Type} {g : Operand} {ps : Array Tmp} {assign body : Code} {Q : Exit → Act → World → Prop} {a : Act} {w : World} {gf : Nat} {lb : Array Value}
 {encs : α → Array Value} {Adm : List α → α → World → Prop} {S Sp : List α → World → Prop} {R : World → Prop}

/-- the statement, outside of every round, whose assignments turn slots alone -/
theorem range_p (hg : a.eval g = .func (.func gf) #[] lb) (eg : ∀ args w, (callFunc gf args).run P w = .ok (.enter gf args) w)
  (hseq : Seq P gf lb encs R Adm S Sp) (hps : ∀ x, (encs x).size = ps.size) (I : List α → World → Prop) (Ix : Code → List α → World → Prop)
  (hI : ∀ s, St w.heap.size (I s)) (hIx : ∀ c s, St w.heap.size (Ix c s)) (hR : ∀ B, St B R) (hAdm : ∀ pre x, St w.heap.size (Adm pre x)) (hS : ∀ xs, St w.heap.size (S xs)) (hSp : ∀ xs, St w.heap.size (Sp xs)) (h0 : I [] w) (hR0 : R w)
  (act : α → Act)
  (hassign : ∀ (l : Nat) (x : α) (W : World) (K : Act → World → Prop), K (act x) W →
   assign.wpIn (Fence.wide.inRound l) 0 P (Exit.then K (fun _ _ _ => False)) { tmps := (ps.zip (encs x)).foldl (fun t (p, v) => t.setIfInBounds p v) a.tmps, defers := [] } W)
  (hbody : ∀ (l : Nat) (pre : List α) (x : α) (W : World), w.heap.size ≤ l → (∃ r, W.heap[l]? = some (.loop r)) → I pre W → R W → Adm pre x W →
   body.wpIn (Fence.wide.inRound l) 0 P (rpost w.heap.size R I Ix (pre ++ [x]) W) (act x) W)
  (hdone : ∀ (D : Nat) (xs : List α) (W : World), w.heap.size ≤ D → S xs W → I xs W → R W → W.heap[D]? = some (.deferred (some [])) → Q .normal { a with defers := { target := .collected D, args := #[] } :: a.defers } W)
  (hstop : ∀ (D : Nat) (c : Code) (pre : List α) (W : World), w.heap.size ≤ D → Sp pre W → Ix c pre W → W.heap[D]? = some (.deferred (some [])) →
   c.wpIn Fence.wide 0 P Q { a with defers := { target := .collected D, args := #[] } :: a.defers } W) :
  (Code.rangeFunc g ps assign body).wpIn Fence.wide 0 P Q a w :=
 range_law hg eg hseq hps I Ix hI hIx (hR _) hAdm h0 hR0 (fun x a' _ => a' = act x) (fun _ _ _ _ _ h => h)
  (fun l _ x W K hi hr ha hK => hassign l x W K (hK _ _ (KeepsFrom.refl _ _) hr hi ha rfl))
  (fun l pre x a' W hl hr2 hi hr ha hax => by subst hax; exact hbody l pre x W hl hr2 hi hr ha) hdone hstop hS hSp

end

/-- what stays through an iterator's steps -/
theorem St.and {B : Nat} {I J : World → Prop} (h : St B I) (k : St B J) : St B (fun W => I W ∧ J W) := fun _ _ hk ⟨a, b⟩ => ⟨h _ _ hk a, k _ _ hk b⟩
theorem St.ex {β : Type} {B : Nat} {I : β → World → Prop} (h : ∀ x, St B (I x)) : St B (fun W => ∃ x, I x W) := fun _ _ hk ⟨x, a⟩ => ⟨x, h x _ _ hk a⟩
theorem St.pure {B : Nat} (p : Prop) : St B (fun _ => p) := fun _ _ _ h => h
theorem St.below {B n₀ : Nat} {w0 : World} (h1 : n₀ ≤ B) (h2 : n₀ ≤ w0.heap.size) : St B (fun W => Below n₀ w0 W) := fun _ _ hk h => hk.below h1 h2 h
theorem Kept.boxed {B : Nat} {A C : World} (hk : Kept B A C) {b : Nat} {t : TypeId} {v : Value} (h : Boxed A b t v) : Boxed C b t v := hk.same _ _ h (.inl rfl)
theorem St.boxed {B b : Nat} {t : TypeId} {v : Value} : St B (fun W => Boxed W b t v) := fun _ _ hk h => hk.boxed h
theorem Kept.owns {B : Nat} {A C : World} (hk : Kept B A C) {base : Nat} {e : TypeId} {size : Nat} {v : Value} {n : Nat} {xs : List Value} (h : A.ownsRow base e size v n xs) : C.ownsRow base e size v n xs := by
 obtain ⟨h1, h2⟩ := h
 refine ⟨h1, ?_⟩
 rcases h2 with h2 | ⟨g, cap, cur, hv, hg, hh, r⟩
 ·exact .inl h2
 ·exact .inr ⟨g, cap, cur, hv, hg, hk.same _ _ hh (.inl rfl), r⟩
theorem St.owns {B base : Nat} {e : TypeId} {size : Nat} {v : Value} {n : Nat} {xs : List Value} : St B (fun W => W.ownsRow base e size v n xs) := fun _ _ hk h => hk.owns h
theorem St.sl {α : Type} {B k : Nat} {enc : α → List Value} {v : Value} {l : List α} : St B (fun W => Sl W k enc v l) := fun _ _ hk h => hk.sl h

/-- a slice that the call owns reads as a list -/
theorem sl_of_owns {α : Type} {W : World} {base : Nat} {e : TypeId} {k : Nat} {enc : α → List Value} {v : Value} {l : List α} (hk : ∀ x ∈ l, (enc x).length = k) (h : W.ownsRow base e k v l.length (l.flatMap enc)) : Sl W k enc v l := by
 obtain ⟨h1, h2⟩ := h
 rcases h2 with ⟨rfl, h0⟩ | ⟨g, cap, cur, rfl, hg, hh, hle, hcap, hsz, ht⟩
 ·exact .inl ⟨rfl, List.length_eq_zero_iff.1 h0⟩
 ·refine Sl.mk hle hcap fun i x hi j u hu => ?_
  have hkx : (enc x).length = k := hk x (List.mem_of_getElem? hi)
  have hj : j < k := by rw [← hkx]; exact (List.getElem?_eq_some_iff.1 hu).1
  have hlt : i < l.length := (List.getElem?_eq_some_iff.1 hi).1
  have key : ∀ (l : List α) (i : Nat), (∀ x ∈ l, (enc x).length = k) → l[i]? = some x → (l.flatMap enc)[i * k + j]? = some u := by
   intro l
   induction l with
   | nil => intro i _ h; simp at h
   | cons y l ih =>
    intro i hl hi
    cases i with
    | zero =>
     simp at hi; subst hi
     simp only [List.flatMap_cons, Nat.zero_mul, Nat.zero_add]
     rw [List.getElem?_append_left (by rw [hl y (by simp)]; exact hj)]; exact hu
    | succ i =>
     simp only [List.flatMap_cons]
     rw [List.getElem?_append_right (by rw [hl y (by simp), Nat.succ_mul]; omega), hl y (by simp)]
     have := ih i (fun z hz => hl z (by simp [hz])) (by simpa using hi)
     rw [Nat.succ_mul]
     rwa [show i * k + k + j - k = i * k + j by omega]
  have h3 := key l i hk hi
  rw [← ht] at h3
  have h4 : cur[0 + i * k + j]? = some u := by
   rw [List.getElem?_take] at h3
   split at h3
   ·simpa using h3
   ·cases h3
  simp only [World.cell?, hh]
  simpa using h4

/-- a block that is known whole, as a slice from its head -/
theorem sl_of_block {α : Type} {W : World} {k : Nat} {enc : α → List Value} {b : Nat} {C : Array Value} {t : TypeId} {fr : Nat × Nat} {cap : Nat} {l : List α} (hb : W.heap[b]? = some (.cells C t fr))
  (hC : C.toList.take (l.length * k) = l.flatMap enc) (hk : ∀ x ∈ l, (enc x).length = k) (hcap : l.length ≤ cap) (hm : cap ≤ maxLen) : Sl W k enc (.slice (some ⟨b, 0, none⟩) l.length cap) l := by
 refine Sl.mk hcap hm fun i x hi j u hu => ?_
 have hkx : (enc x).length = k := hk x (List.mem_of_getElem? hi)
 have hj : j < k := by rw [← hkx]; exact (List.getElem?_eq_some_iff.1 hu).1
 have key : ∀ (l : List α) (i : Nat), (∀ x ∈ l, (enc x).length = k) → l[i]? = some x → (l.flatMap enc)[i * k + j]? = some u := by
  intro l
  induction l with
  | nil => intro i _ h; simp at h
  | cons y l ih =>
   intro i hl hi
   cases i with
   | zero =>
    simp at hi; subst hi
    simp only [List.flatMap_cons, Nat.zero_mul, Nat.zero_add]
    rw [List.getElem?_append_left (by rw [hl y (by simp)]; exact hj)]; exact hu
   | succ i =>
    simp only [List.flatMap_cons]
    rw [List.getElem?_append_right (by rw [hl y (by simp), Nat.succ_mul]; omega), hl y (by simp)]
    have := ih i (fun z hz => hl z (by simp [hz])) (by simpa using hi)
    rw [Nat.succ_mul]
    rwa [show i * k + k + j - k = i * k + j by omega]
 have h3 := key l i hk hi
 rw [← hC] at h3
 have h4 : C[0 + i * k + j]? = some u := by
  rw [List.getElem?_take] at h3
  split at h3
  ·simpa using h3
  ·cases h3
 simp only [World.cell?, hb]
 simpa using h4

theorem owns_shape {W : World} {base : Nat} {e : TypeId} {size : Nat} {v : Value} {n : Nat} {xs : List Value} (h : W.ownsRow base e size v n xs) : ∃ p cap, v = .slice p n cap ∧ n ≤ cap ∧ cap ≤ maxLen := by
 rcases h.2 with ⟨rfl, rfl⟩ | ⟨g, cap, cur, rfl, _, _, h1, h2, _⟩
 ·exact ⟨none, 0, rfl, Nat.le_refl _, Nat.zero_le _⟩
 ·exact ⟨_, _, rfl, h1, h2⟩
/-- at a return, one mark open -/
theorem leave1 {P : Program} {fn : Func} {tmps : Array Value} {R : Ending → World → Prop} {D : Nat} {W : World} {v : Value} (hK : W.heap[D]? = some (.deferred (some [])))
  (hv : ∀ W' : World, Kept 0 W W' → (results fn tmps).run P W' = .ok v W') (hR : R (.returned v) (W.putObj D (.deferred none))) :
  bodyPostM Fence.wide 0 P fn R .ret { tmps := tmps, defers := [{ target := .collected D, args := #[] }] } W :=
 ⟨fun h => (by cases h), .inl ⟨_, _, rfl, run_takeDeferred hK, v, hv _ (Kept.putObj _ (Nat.zero_le _) hK rfl), hR⟩⟩

theorem _root_.Go.RowKit.Below.drewN {B : Nat} {a w : World} (h : Below B a w) (n : Nat) : Below B a (w.drewN n) := ⟨h.os, h.tape, h.output, h.size, h.block⟩

theorem calls_of_marks {P : Program} {f : FuncId} {fn : Func} {c : Code} {args : Array Value} {w : World} {R : Ending → World → Prop} (hf : P.funcs[f]? = some fn) (hb : fn.body = some c)
  (h : c.wpIn Fence.wide 0 P (bodyPostM Fence.wide 0 P fn R) { tmps := args ++ Array.replicate (fn.ntmps - args.size) undef, defers := [] } w) : Calls P f args w R :=
 callsIn_wide.1 (callsIn_of_wp_marks hf hb trivial h)

theorem calls_of_wpIn {P : Program} {f : FuncId} {fn : Func} {c : Code} {args : Array Value} {w : World} {R : Ending → World → Prop} (hf : P.funcs[f]? = some fn) (hb : fn.body = some c)
  (h : c.wpIn Fence.wide 0 P (bodyPost P fn R) { tmps := args ++ Array.replicate (fn.ntmps - args.size) undef, defers := [] } w) : Calls P f args w R :=
 callsIn_wide.1 (callsIn_of_wp hf hb trivial h)
end Go.Proofs.YtempicociampoaaGreatDoor
