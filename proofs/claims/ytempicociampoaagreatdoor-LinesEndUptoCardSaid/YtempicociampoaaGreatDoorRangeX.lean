/- Ranges over a function whose iterator writes to blocks of its own: they are told by their types (by gen_rangex.py). -/
import Derived.Test.YtempicociampoaaGreatDoorJ5
namespace Go.Proofs.YtempicociampoaaGreatDoor
open Go.RowKit

/-- is it a block of a type in N -/
def ownT (N : TypeId → Bool) : Obj → Bool
 | .cells _ t _ => N t
 | _ => false

/-- all cells stand but the iterator's, and whatever lies below B -/
structure KeptX (N : TypeId → Bool) (B : Nat) (A C : World) : Prop where
 os : C.os = A.os
 tape : C.tape = A.tape
 output : C.output = A.output
 size : A.heap.size ≤ C.heap.size
 same : ∀ k o, A.heap[k]? = some o → ((o.isCells = true ∧ ownT N o = false) ∨ k < B) → C.heap[k]? = some o

theorem Kept.x {N : TypeId → Bool} {B : Nat} {A C : World} (h : Kept B A C) : KeptX N B A C := ⟨h.os, h.tape, h.output, h.size, fun k o hk ho => h.same k o hk (ho.imp And.left id)⟩
theorem KeptX.mono {N : TypeId → Bool} {B B' : Nat} {A C : World} (h : KeptX N B A C) (hB : B' ≤ B) : KeptX N B' A C := ⟨h.os, h.tape, h.output, h.size, fun k o hk ho => h.same k o hk (ho.imp id (fun h => by omega))⟩
theorem KeptX.trans {N : TypeId → Bool} {B : Nat} {A C D : World} (h : KeptX N B A C) (k : KeptX N B C D) : KeptX N B A D :=
 ⟨k.os.trans h.os, k.tape.trans h.tape, k.output.trans h.output, Nat.le_trans h.size k.size, fun i o hi ho => k.same i o (h.same i o hi ho) ho⟩
theorem KeptX.upd {N : TypeId → Bool} {B S : Nat} {cs : Array Value} {t : TypeId} {W W' : World} (h : Upd S cs t W W') {cs0 : Array Value} {t0 : TypeId} {fr : Nat × Nat} (h0 : W.heap[S]? = some (.cells cs0 t0 fr)) (hN : N t0 = true) (hB : B ≤ S) : KeptX N B W W' :=
 ⟨h.os, h.tape, h.output, by rw [h.size]; exact Nat.le_refl _, fun k o hk ho => by
  by_cases e : k = S
  ·subst e; rw [h0] at hk; cases hk
   rcases ho with ⟨-, ho⟩ | ho
   ·rw [ownT, hN] at ho; cases ho
   ·omega
  ·exact (h.off k e).trans hk⟩
theorem KeptX.below {N : TypeId → Bool} {B n₀ : Nat} {w0 A C : World} (h : KeptX N B A C) (hn : n₀ ≤ B) (hn0 : n₀ ≤ w0.heap.size) (hb : Below n₀ w0 A) : Below n₀ w0 C :=
 ⟨h.os.trans hb.os, h.tape.trans hb.tape, h.output.trans hb.output, Nat.le_trans hb.size h.size, fun k hk => by
  have e := hb.block k hk
  obtain ⟨o, ho⟩ : ∃ o, A.heap[k]? = some o := by
   have : k < A.heap.size := Nat.lt_of_lt_of_le (Nat.lt_of_lt_of_le hk hn0) hb.size
   exact ⟨_, Array.getElem?_eq_getElem this⟩
  rw [h.same k o ho (.inr (by omega)), ← ho, e]⟩
theorem KeptX.blk {N : TypeId → Bool} {B b : Nat} {A C : World} (h : KeptX N B A C) {cs : Array Value} {t : TypeId} {fr : Nat × Nat} (hc : A.heap[b]? = some (.cells cs t fr)) (ht : N t = false) : C.heap[b]? = some (.cells cs t fr) :=
 h.same _ _ hc (.inl ⟨rfl, ht⟩)
theorem KeptX.owns {N : TypeId → Bool} {B : Nat} {A C : World} (hk : KeptX N B A C) {base : Nat} {e : TypeId} {size : Nat} {v : Value} {n : Nat} {xs : List Value} (ht : N e = false) (h : A.ownsRow base e size v n xs) : C.ownsRow base e size v n xs := by
 obtain ⟨h1, h2⟩ := h
 refine ⟨h1, ?_⟩
 rcases h2 with h2 | ⟨g, cap, cur, hv, hg, hh, r⟩
 ·exact .inl h2
 ·exact .inr ⟨g, cap, cur, hv, hg, hk.same _ _ hh (.inl ⟨rfl, ht⟩), r⟩

def StX (N : TypeId → Bool) (B : Nat) (I : World → Prop) : Prop := ∀ A C, KeptX N B A C → I A → I C
theorem StX.and {N : TypeId → Bool} {B : Nat} {I J : World → Prop} (h : StX N B I) (k : StX N B J) : StX N B (fun W => I W ∧ J W) := fun _ _ hk ⟨a, b⟩ => ⟨h _ _ hk a, k _ _ hk b⟩
theorem StX.ex {N : TypeId → Bool} {β : Type} {B : Nat} {I : β → World → Prop} (h : ∀ x, StX N B (I x)) : StX N B (fun W => ∃ x, I x W) := fun _ _ hk ⟨x, a⟩ => ⟨x, h x _ _ hk a⟩
theorem StX.pure {N : TypeId → Bool} {B : Nat} (p : Prop) : StX N B (fun _ => p) := fun _ _ _ h => h

/-- what a round's body leaves alone: what is no cells, and the iterator's blocks -/
structure KeepsX (N : TypeId → Bool) (B : Nat) (W W' : World) : Prop where
 size : W.heap.size ≤ W'.heap.size
 same : ∀ (k : Nat) (o : Obj), B ≤ k → W.heap[k]? = some o → (o.isCells = false ∨ ownT N o = true) → W'.heap[k]? = some o
theorem KeepsX.refl {N : TypeId → Bool} (B : Nat) (W : World) : KeepsX N B W W := ⟨Nat.le_refl _, fun _ _ _ h _ => h⟩
theorem KeepsX.trans {N : TypeId → Bool} {B : Nat} {X Y Z : World} (h : KeepsX N B X Y) (k : KeepsX N B Y Z) : KeepsX N B X Z := ⟨Nat.le_trans h.size k.size, fun i o hB hi ho => k.same i o hB (h.same i o hB hi ho) ho⟩
theorem KeepsX.mono {N : TypeId → Bool} {B B' : Nat} {W W' : World} (h : KeepsX N B W W') (hB : B ≤ B') : KeepsX N B' W W' := ⟨h.size, fun k o hk h1 h2 => h.same k o (by omega) h1 h2⟩
theorem keepsX_putObj {N : TypeId → Bool} {B l : Nat} (W : World) (o : Obj) (h : l < B) : KeepsX N B W (W.putObj l o) :=
 ⟨by simp [World.putObj], fun k o' hB hk _ => (World.putObj_heap_other (by omega)).trans hk⟩
theorem KeepsX.alloc {N : TypeId → Bool} (B : Nat) (W : World) (o : Obj) : KeepsX N B W (W.alloc o) := ⟨by simp, fun k _ _ hk _ => (Below.heap_alloc W o k (Array.getElem?_eq_some_iff.1 hk).1).trans hk⟩
theorem KeepsX.setCell {N : TypeId → Bool} (B : Nat) {W : World} {b i : Nat} {cs : Array Value} {t : TypeId} {fr : Nat × Nat} (h : W.heap[b]? = some (.cells cs t fr)) (ht : N t = false) (x : Value) : KeepsX N B W (W.setCell ⟨b, i, none⟩ x) :=
 ⟨by simp [World.setCell], fun k o _ hk ho => by
  by_cases e : k = b
  ·subst e; rw [h] at hk; cases hk
   rcases ho with ho | ho
   ·cases ho
   ·rw [ownT, ht] at ho; cases ho
  ·exact (setCell_off e).trans hk⟩

/-- the iterator's word: each thing that it hands out comes with 'Adm'; R: what it reads -/
def SeqX {α : Type} (P : Program) (N : TypeId → Bool) (gf : Nat) (lb : Array Value) (encs : α → Array Value) (R : World → Prop) (Adm : List α → α → World → Prop) (S Sp : List α → World → Prop) : Prop :=
 ∀ (l : Nat) (J Jx : List α → World → Prop) (W : World), (∀ s, StX N W.heap.size (J s)) → (∀ s, StX N W.heap.size (Jx s)) →
  (∀ pre x W1, J pre W1 → R W1 → Adm pre x W1 → YieldAt Fence.wide 0 P l (encs x) W1 fun e W' =>
   (e = .returned (.bool true) ∧ J (pre ++ [x]) W' ∧ R W' ∧ KeepsX N W.heap.size W1 W') ∨ (e = .returned (.bool false) ∧ Jx (pre ++ [x]) W')) →
  J [] W → R W →
  Calls P gf (#[.func (.yield l) #[] #[]] ++ lb) W fun e W' => (∃ v, e = .returned v) ∧ ((∃ xs, S xs W' ∧ J xs W' ∧ R W') ∨ (∃ pre, Sp pre W' ∧ Jx pre W'))

/-- how a round's body may be left -/
def rpostX {α : Type} (N : TypeId → Bool) (B : Nat) (R : World → Prop) (I : List α → World → Prop) (Ix : Code → List α → World → Prop) (xs : List α) (W : World) : Exit → Act → World → Prop
 | .normal, _, W' => KeepsX N B W W' ∧ R W' ∧ I xs W'
 | .ret, _, W' => KeepsX N B W W' ∧ Ix .ret xs W'
 | .exit id, _, W' => KeepsX N B W W' ∧ Ix (.exit id) xs W'
 | .goto t, _, W' => KeepsX N B W W' ∧ Ix (.goto t) xs W'
 | .panic _, _, _ => False
 | .outgrown, _, _ => False

section
variable {P : Program} {N : TypeId → Bool} {α : Type} {g : Operand} {ps : Array Tmp} {assign body : Code} {Q : Exit → Act → World → Prop} {a : Act} {w : World} {gf : Nat} {lb : Array Value}
 {encs : α → Array Value} {Adm : List α → α → World → Prop} {S Sp : List α → World → Prop} {R : World → Prop}

/-- one round, its record at l, whatever book-keeping block lies at D -/
theorem round_lawX {F : Fence} (hF : ∀ f, F.fn f) {l : Nat} {rec : LoopState → Option Code → Loop} {fn : FuncId} {B B' : Nat} (hl1 : B ≤ l) (hlB : l < B') {X : World → Prop} (hX : ∀ A C, KeepsX N B A C → X A → X C) (hX2 : ∀ A o, X A → X (A.putObj l o))
  (hrec : ∀ st pe, rec st pe = { state := st, pending := pe, fn := fn, tmps := a.tmps, params := ps, assign := assign, body := body, defers := (rec .ready none).defers })
  (hps : ∀ x, (encs x).size = ps.size) (I : List α → World → Prop) (Ix : Code → List α → World → Prop)
  (hI : ∀ s, StX N B (I s)) (hIx : ∀ c s, StX N B (Ix c s)) (hR : St B R) (hAdm : ∀ pre x, St B (Adm pre x)) (Ax : α → Act → World → Prop) (hAx : ∀ x a', St B (Ax x a'))
  (hassign : ∀ (pre : List α) (x : α) (W : World) (K : Act → World → Prop), I pre W → R W → Adm pre x W → (∀ a' W', KeepsX N B W W' → R W' → I pre W' → Adm pre x W' → Ax x a' W' → K a' W') →
   assign.wpIn (F.inRound l) 0 P (Exit.then K (fun _ _ _ => False)) { tmps := (ps.zip (encs x)).foldl (fun t (p, v) => t.setIfInBounds p v) a.tmps, defers := [] } W)
  (hbody : ∀ (pre : List α) (x : α) (a' : Act) (W : World), (∃ r, W.heap[l]? = some (.loop r)) → I pre W → R W → Adm pre x W → Ax x a' W → body.wpIn (F.inRound l) 0 P (rpostX N B R I Ix (pre ++ [x]) W) a' W)
  (pre : List α) (x : α) (W : World) (hi : I pre W) (hr : R W) (hl : W.heap[l]? = some (.loop (rec .ready none))) (hk : X W) (ha : Adm pre x W) :
  YieldAt F 0 P l (encs x) W fun e W' =>
   (e = .returned (.bool true) ∧ (I (pre ++ [x]) W' ∧ W'.heap[l]? = some (.loop (rec .ready none)) ∧ X W') ∧ R W' ∧ KeepsX N B' W W') ∨
   (e = .returned (.bool false) ∧ ∃ c, Ix c (pre ++ [x]) W' ∧ W'.heap[l]? = some (.loop (rec .done (some c))) ∧ X W') := by
 have hy := run_yield (P := P) (args := encs x) hl (by rw [hrec]; exact hps x)
 rw [hrec] at hy
 refine ⟨fn, _, assign, body, hy, roundIn_of_wpIn (hF _) (hassign pre x W _ hi hr ha ?_)⟩
 intro a' Wa hkf hra hia hada hax
 have hla := hkf.same _ _ hl1 hl (.inl rfl)
 have hka := hX _ _ hkf hk
 have hlt : l < Wa.heap.size := (Array.getElem?_eq_some_iff.1 hla).1
 refine ⟨_, run_beginRound hla (by rw [hrec]), ?_⟩
 have kp : Kept B Wa (Wa.putObj l (.loop { rec .ready none with state := .busy })) := Kept.putObj _ hl1 hla rfl
 have hl2 : (Wa.putObj l (.loop { rec .ready none with state := .busy })).heap[l]? = some (.loop { rec .ready none with state := .busy }) := World.putObj_heap_same hlt
 have hk2 := hX2 _ (.loop { rec .ready none with state := .busy }) hka
 refine wpIn_mono (hbody pre x a' _ ⟨_, hl2⟩ (hI _ _ _ kp.x hia) (hR _ _ kp hra) (hAdm _ _ _ _ kp hada) (hAx _ _ _ _ kp hax)) ?_
 have fin : ∀ (jump : Option Code) (W3 : World), KeepsX N B (Wa.putObj l (.loop { rec .ready none with state := .busy })) W3 →
   (Instr.endRound l jump).run P W3 = .ok (.bool jump.isNone) (W3.putObj l (.loop (rec (if jump.isNone then .ready else .done) jump))) ∧
   Kept B W3 (W3.putObj l (.loop (rec (if jump.isNone then .ready else .done) jump))) ∧
   (W3.putObj l (.loop (rec (if jump.isNone then .ready else .done) jump))).heap[l]? = some (.loop (rec (if jump.isNone then .ready else .done) jump)) ∧
   X (W3.putObj l (.loop (rec (if jump.isNone then .ready else .done) jump))) := fun jump W3 hk3 => by
  have hl3 := hk3.same _ _ hl1 hl2 (.inl rfl)
  have := run_endRound (P := P) jump hl3
  rw [hrec] at this
  rw [hrec (if jump.isNone then .ready else .done) jump]
  refine ⟨this, Kept.putObj _ hl1 hl3 rfl, World.putObj_heap_same (Array.getElem?_eq_some_iff.1 hl3).1, hX2 _ _ (hX _ _ hk3 hk2)⟩
 rintro e a3 W3 hp
 cases e with
 | normal =>
  obtain ⟨hk3, hr3, hi3⟩ := hp
  obtain ⟨h1, h2, h3, h4⟩ := fin none W3 hk3
  exact ⟨_, _, h1, .inl ⟨rfl, ⟨hI _ _ _ h2.x hi3, h3, h4⟩, hR _ _ h2 hr3, (hkf.mono (by omega)).trans ((keepsX_putObj _ _ hlB).trans ((hk3.mono (by omega)).trans (keepsX_putObj _ _ hlB)))⟩⟩
 | ret =>
  obtain ⟨hk3, hi3⟩ := hp
  obtain ⟨h1, h2, h3, h4⟩ := fin (some .ret) W3 hk3
  exact ⟨_, _, h1, .inr ⟨rfl, .ret, hIx _ _ _ _ h2.x hi3, h3, h4⟩⟩
 | exit id =>
  obtain ⟨hk3, hi3⟩ := hp
  obtain ⟨h1, h2, h3, h4⟩ := fin (some (.exit id)) W3 hk3
  exact ⟨_, _, h1, .inr ⟨rfl, .exit id, hIx _ _ _ _ h2.x hi3, h3, h4⟩⟩
 | goto t =>
  obtain ⟨hk3, hi3⟩ := hp
  obtain ⟨h1, h2, h3, h4⟩ := fin (some (.goto t)) W3 hk3
  exact ⟨_, _, h1, .inr ⟨rfl, .goto t, hIx _ _ _ _ h2.x hi3, h3, h4⟩⟩
 | panic ch => exact hp.elim
 | outgrown => exact hp.elim

/-- the statement, outside of every round -/
theorem range_lawX (hg : a.eval g = .func (.func gf) #[] lb) (eg : ∀ args w, (callFunc gf args).run P w = .ok (.enter gf args) w)
  (hseq : SeqX P N gf lb encs R Adm S Sp) (hps : ∀ x, (encs x).size = ps.size) (I : List α → World → Prop) (Ix : Code → List α → World → Prop)
  (hI : ∀ s, StX N w.heap.size (I s)) (hIx : ∀ c s, StX N w.heap.size (Ix c s)) (hR : St w.heap.size R) (hAdm : ∀ pre x, St w.heap.size (Adm pre x)) (h0 : I [] w) (hR0 : R w)
  (Ax : α → Act → World → Prop) (hAx : ∀ x a', St w.heap.size (Ax x a'))
  (hassign : ∀ (l : Nat) (pre : List α) (x : α) (W : World) (K : Act → World → Prop), I pre W → R W → Adm pre x W → (∀ a' W', KeepsX N w.heap.size W W' → R W' → I pre W' → Adm pre x W' → Ax x a' W' → K a' W') →
   assign.wpIn (Fence.wide.inRound l) 0 P (Exit.then K (fun _ _ _ => False)) { tmps := (ps.zip (encs x)).foldl (fun t (p, v) => t.setIfInBounds p v) a.tmps, defers := [] } W)
  (hbody : ∀ (l : Nat) (pre : List α) (x : α) (a' : Act) (W : World), w.heap.size ≤ l → (∃ r, W.heap[l]? = some (.loop r)) → I pre W → R W → Adm pre x W → Ax x a' W →
   body.wpIn (Fence.wide.inRound l) 0 P (rpostX N w.heap.size R I Ix (pre ++ [x]) W) a' W)
  (hdone : ∀ (D : Nat) (xs : List α) (W : World), w.heap.size ≤ D → S xs W → I xs W → R W → W.heap[D]? = some (.deferred (some [])) → Q .normal { a with defers := { target := .collected D, args := #[] } :: a.defers } W)
  (hstop : ∀ (D : Nat) (c : Code) (pre : List α) (W : World), w.heap.size ≤ D → Sp pre W → Ix c pre W → W.heap[D]? = some (.deferred (some [])) →
   c.wpIn Fence.wide 0 P Q { a with defers := { target := .collected D, args := #[] } :: a.defers } W)
  (hS : ∀ xs, St w.heap.size (S xs)) (hSp : ∀ xs, St w.heap.size (Sp xs)) :
  (Code.rangeFunc g ps assign body).wpIn Fence.wide 0 P Q a w := by
 refine wpIn_rangeFunc ?_
 intro fn hfn
 obtain ⟨rec, hrec⟩ : ∃ rec : LoopState → Option Code → Loop, rec = fun st pe => { state := st, pending := pe, fn, tmps := a.tmps, params := ps, assign, body, defers := w.heap.size } := ⟨_, rfl⟩
 obtain ⟨W1, hW1⟩ : ∃ W1, (w.alloc (.deferred (some []))).alloc (.loop (rec .ready none)) = W1 := ⟨_, rfl⟩
 have hL1 : W1.heap[w.heap.size + 1]? = some (.loop (rec .ready none)) := by
  rw [← hW1]; have := World.alloc_heap_new (w.alloc (.deferred (some []))) (.loop (rec .ready none)); rwa [World.size_alloc] at this
 have hK1 : W1.heap[w.heap.size]? = some (.deferred (some [])) := by
  rw [← hW1]; exact (Below.heap_alloc _ _ _ (by simp)).trans (World.alloc_heap_new w _)
 have k1 : Kept w.heap.size w W1 := by rw [← hW1]; exact (Kept.alloc _ _ _).trans (Kept.alloc _ _ _)
 refine ⟨w.heap.size + 1, [{ target := .collected w.heap.size, args := #[] }], W1, { target := .fn (.func gf) lb, args := #[.func (.yield (w.heap.size + 1)) #[] #[]] }, W1, gf,
  #[.func (.yield (w.heap.size + 1)) #[] #[]] ++ lb, W1, ?_, ?_, ?_, ?_, (fun h => (by cases h)), ?_⟩
 ·rw [← hW1, hrec]; exact run_enterLoop_outer _ _ _ _ _
 ·simp only [resolve, hg]
  simp [go_sem]
 ·intro f' hf'; simp [Target.leads] at hf'; subst hf'; exact trivial
 ·simp [invoke, go_sem, eg]
 ·refine callsIn_wide.2 ((hseq (w.heap.size + 1)
   (fun pre W => I pre W ∧ W.heap[w.heap.size + 1]? = some (.loop (rec .ready none)) ∧ W.heap[w.heap.size]? = some (.deferred (some [])))
   (fun pre W => ∃ c, Ix c pre W ∧ W.heap[w.heap.size + 1]? = some (.loop (rec .done (some c))) ∧ W.heap[w.heap.size]? = some (.deferred (some [])))
   W1 ?_ ?_ ?_ ⟨hI _ _ _ k1.x h0, hL1, hK1⟩ (hR _ _ k1 hR0)).mono ?_)
  ·rintro s A C hk ⟨h1, h2, h3⟩
   have hs : w.heap.size + 1 < W1.heap.size := (Array.getElem?_eq_some_iff.1 hL1).1
   exact ⟨hI _ _ _ (hk.mono (by omega)) h1, hk.same _ _ h2 (.inr hs), hk.same _ _ h3 (.inr (by omega))⟩
  ·rintro s A C hk ⟨c, h1, h2, h3⟩
   have hs : w.heap.size + 1 < W1.heap.size := (Array.getElem?_eq_some_iff.1 hL1).1
   exact ⟨c, hIx _ _ _ _ (hk.mono (by omega)) h1, hk.same _ _ h2 (.inr hs), hk.same _ _ h3 (.inr (by omega))⟩
  ·rintro pre x W ⟨hi, hl, hk⟩ hr ha
   have hs1 : w.heap.size + 1 < W1.heap.size := (Array.getElem?_eq_some_iff.1 hL1).1
   exact round_lawX (fun _ => trivial) (l := w.heap.size + 1) (B := w.heap.size) (by omega) hs1 (X := fun W => W.heap[w.heap.size]? = some (.deferred (some []))) (fun A C hk hx => hk.same _ _ (Nat.le_refl _) hx (.inl rfl)) (fun A o hx => (World.putObj_heap_other (by omega)).trans hx)
    (fun st pe => by rw [hrec]) hps I Ix hI hIx hR hAdm Ax hAx (hassign _) (fun pre x a' W => hbody _ pre x a' W (by omega)) pre x W hi hr hl hk ha
  ·rintro e W2 ⟨⟨v, rfl⟩, (⟨xs, hS2, ⟨hi, hl, hk⟩, hr⟩ | ⟨pre, hSp2, c, hi, hl, hk⟩)⟩
   ·have kp := Kept.putObj (B := w.heap.size) (.loop { rec .ready none with state := .exhausted }) (by omega) hl rfl
    exact ⟨none, _, by have := run_endLoop (P := P) hl (by rw [hrec]; simp); rw [hrec] at this ⊢; exact this, hdone _ xs _ (Nat.le_refl _) (hS _ _ _ kp hS2) (hI _ _ _ kp.x hi) (hR _ _ kp hr) ((World.putObj_heap_other (by omega)).trans hk)⟩
   ·have kp := Kept.putObj (B := w.heap.size) (.loop { rec .done (some c) with state := .exhausted }) (by omega) hl rfl
    exact ⟨some c, _, by have := run_endLoop (P := P) hl (by rw [hrec]; simp); rw [hrec] at this ⊢; exact this, hstop _ c pre _ (Nat.le_refl _) (hSp _ _ _ kp hSp2) (hIx _ _ _ _ kp.x hi) ((World.putObj_heap_other (by omega)).trans hk)⟩

end

section
variable {P : Program} {N : TypeId → Bool} {α : Type} {g : Operand} {ps : Array Tmp} {assign body : Code} {Q : Exit → Act → World → Prop} {a : Act} {w : World} {gf : Nat} {lb : Array Value}
 {encs : α → Array Value} {Adm : List α → α → World → Prop} {S Sp : List α → World → Prop} {R : World → Prop}

/-- the statement, outside of every round, whose assignments turn slots alone -/
theorem range_pX (hg : a.eval g = .func (.func gf) #[] lb) (eg : ∀ args w, (callFunc gf args).run P w = .ok (.enter gf args) w)
  (hseq : SeqX P N gf lb encs R Adm S Sp) (hps : ∀ x, (encs x).size = ps.size) (I : List α → World → Prop) (Ix : Code → List α → World → Prop)
  (hI : ∀ s, StX N w.heap.size (I s)) (hIx : ∀ c s, StX N w.heap.size (Ix c s)) (hR : ∀ B, St B R) (hAdm : ∀ pre x, St w.heap.size (Adm pre x)) (hS : ∀ xs, St w.heap.size (S xs)) (hSp : ∀ xs, St w.heap.size (Sp xs)) (h0 : I [] w) (hR0 : R w)
  (act : α → Act)
  (hassign : ∀ (l : Nat) (x : α) (W : World) (K : Act → World → Prop), K (act x) W →
   assign.wpIn (Fence.wide.inRound l) 0 P (Exit.then K (fun _ _ _ => False)) { tmps := (ps.zip (encs x)).foldl (fun t (p, v) => t.setIfInBounds p v) a.tmps, defers := [] } W)
  (hbody : ∀ (l : Nat) (pre : List α) (x : α) (W : World), w.heap.size ≤ l → (∃ r, W.heap[l]? = some (.loop r)) → I pre W → R W → Adm pre x W →
   body.wpIn (Fence.wide.inRound l) 0 P (rpostX N w.heap.size R I Ix (pre ++ [x]) W) (act x) W)
  (hdone : ∀ (D : Nat) (xs : List α) (W : World), w.heap.size ≤ D → S xs W → I xs W → R W → W.heap[D]? = some (.deferred (some [])) → Q .normal { a with defers := { target := .collected D, args := #[] } :: a.defers } W)
  (hstop : ∀ (D : Nat) (c : Code) (pre : List α) (W : World), w.heap.size ≤ D → Sp pre W → Ix c pre W → W.heap[D]? = some (.deferred (some [])) →
   c.wpIn Fence.wide 0 P Q { a with defers := { target := .collected D, args := #[] } :: a.defers } W) :
  (Code.rangeFunc g ps assign body).wpIn Fence.wide 0 P Q a w :=
 range_lawX hg eg hseq hps I Ix hI hIx (hR _) hAdm h0 hR0 (fun x a' _ => a' = act x) (fun _ _ _ _ _ h => h)
  (fun l _ x W K hi hr ha hK => hassign l x W K (hK _ _ (KeepsX.refl _ _) hr hi ha rfl))
  (fun l pre x a' W hl hr2 hi hr ha hax => by subst hax; exact hbody l pre x W hl hr2 hi hr ha) hdone hstop hS hSp

end


end Go.Proofs.YtempicociampoaaGreatDoor
