/- Blocks that a call has laid, known whole: stores into them. -/
import Derived.Test.YtempicociampoaaDoorRange
namespace Go.Proofs.YtempicociampoaaDoor
open Go.RowKit

theorem setCell_blk {w : World} {b i : Nat} {x : Value} {cs : Array Value} {t : TypeId} {fr : Nat × Nat} (h : w.heap[b]? = some (.cells cs t fr)) :
    (w.setCell ⟨b, i, none⟩ x).heap[b]? = some (.cells (cs.setIfInBounds i x) t fr) := by
  obtain ⟨hb, he⟩ := Array.getElem?_eq_some_iff.1 h
  simp [World.setCell, hb, Array.getElem_modify, he]
theorem setCell_off {w : World} {b i k : Nat} {x : Value} (h : k ≠ b) : (w.setCell ⟨b, i, none⟩ x).heap[k]? = w.heap[k]? := by
  simp only [World.setCell]
  rw [Array.getElem?_modify]
  rw [if_neg (fun e => h e.symm)]

/-- one block is written, all else stands -/
structure Upd (S : Nat) (cs : Array Value) (t : TypeId) (W W' : World) : Prop where
  os : W'.os = W.os
  tape : W'.tape = W.tape
  output : W'.output = W.output
  size : W'.heap.size = W.heap.size
  here : W'.heap[S]? = some (.cells cs t (0, 0))
  off : ∀ k, k ≠ S → W'.heap[k]? = W.heap[k]?

theorem Upd.refl {S : Nat} {cs : Array Value} {t : TypeId} {W : World} (h : W.heap[S]? = some (.cells cs t (0, 0))) : Upd S cs t W W := ⟨rfl, rfl, rfl, rfl, h, fun _ _ => rfl⟩
theorem Upd.trans {S : Nat} {cs cs' : Array Value} {t t' : TypeId} {A C D : World} (h : Upd S cs t A C) (k : Upd S cs' t' C D) : Upd S cs' t' A D :=
  ⟨k.os.trans h.os, k.tape.trans h.tape, k.output.trans h.output, k.size.trans h.size, k.here, fun i hi => (k.off i hi).trans (h.off i hi)⟩
theorem Upd.is {S : Nat} {cs cs' : Array Value} {t : TypeId} {W W' : World} (h : Upd S cs t W W') (e : cs = cs') : Upd S cs' t W W' := e ▸ h
theorem Upd.set {S i : Nat} {cs : Array Value} {t : TypeId} {W W' : World} (h : Upd S cs t W W') (x : Value) : Upd S (cs.setIfInBounds i x) t W (W'.setCell ⟨S, i, none⟩ x) :=
  ⟨h.os, h.tape, h.output, by simp [World.setCell, h.size], setCell_blk h.here, fun k hk => (setCell_off hk).trans (h.off k hk)⟩
theorem Upd.drewN {S : Nat} {cs : Array Value} {t : TypeId} {W W' : World} (h : Upd S cs t W W') (n : Nat) : Upd S cs t W (W'.drewN n) := ⟨h.os, h.tape, h.output, h.size, h.here, h.off⟩
theorem Upd.drew {S : Nat} {cs : Array Value} {t : TypeId} {W W' : World} (h : Upd S cs t W W') : Upd S cs t W W'.drew := ⟨h.os, h.tape, h.output, h.size, h.here, h.off⟩
theorem Upd.cell {S : Nat} {cs : Array Value} {t : TypeId} {W W' : World} (h : Upd S cs t W W') {p : Addr} (hp : p.block ≠ S) : W'.cell? p = W.cell? p := by
  unfold World.cell?; rw [h.off _ hp]
theorem Upd.below {S B : Nat} {cs : Array Value} {t : TypeId} {w W W' : World} (h : Upd S cs t W W') (hB : Below B w W) (hS : B ≤ S) : Below B w W' :=
  ⟨h.os.trans hB.os, h.tape.trans hB.tape, h.output.trans hB.output, by rw [h.size]; exact hB.size, fun k hk => (h.off k (by omega)).trans (hB.block k hk)⟩
theorem Upd.from {S : Nat} {cs : Array Value} {t : TypeId} {W W' : World} (h : Upd S cs t W W') {cs0 : Array Value} {t0 : TypeId} {fr : Nat × Nat} (h0 : W.heap[S]? = some (.cells cs0 t0 fr)) (B : Nat) : KeepsFrom B W W' :=
  ⟨by rw [h.size]; exact Nat.le_refl _, fun k o _ hk ho => by
    by_cases e : k = S
    · subst e; rw [h0] at hk; cases hk; cases ho
    · exact (h.off k e).trans hk⟩
theorem Upd.sl {α : Type} {S : Nat} {cs : Array Value} {t : TypeId} {W W' : World} (h : Upd S cs t W W') {k : Nat} {enc : α → List Value} {p : Option Addr} {m c : Nat} {l : List α} (hp : ∀ a, p = some a → a.block ≠ S) (hs : Sl W k enc (.slice p m c) l) : Sl W' k enc (.slice p m c) l := by
  rcases hs with h1 | ⟨a, cap, h1, h2, h3, h4, h5⟩
  · exact .inl h1
  · refine .inr ⟨a, cap, h1, h2, h3, h4, fun i x hi j u hu => ?_⟩
    cases h1
    exact (h.cell (p := ⟨a.block, _, none⟩) (hp a rfl)).trans (h5 i x hi j u hu)
theorem cell_blk {w : World} {b i : Nat} {cs : Array Value} {t : TypeId} {fr : Nat × Nat} {v : Value} (h : w.heap[b]? = some (.cells cs t fr)) (hi : cs[i]? = some v) : w.cell? ⟨b, i, none⟩ = some v := by
  simp [World.cell?, h, hi]
theorem frozen_blk {w : World} {b i : Nat} {cs : Array Value} {t : TypeId} (h : w.heap[b]? = some (.cells cs t (0, 0))) : w.frozen? ⟨b, i, none⟩ = false := by
  simp [World.frozen?, h]

/-- the statement, outside of every round, whose assignments lay each thing in a block of its own -/
theorem range_box {P : Program} {α : Type} {g : Operand} {ps : Array Tmp} {assign body : Code} {Q : Exit → Act → World → Prop} {a : Act} {w : World} {gf : Nat} {lb : Array Value}
    {encs : α → Array Value} {Adm : List α → α → World → Prop} {S Sp : List α → World → Prop} {R : World → Prop}
    (hg : a.eval g = .func (.func gf) #[] lb) (eg : ∀ args w, (callFunc gf args).run P w = .ok (.enter gf args) w)
    (hseq : Seq P gf lb encs R Adm S Sp) (hps : ∀ x, (encs x).size = ps.size) (I : List α → World → Prop) (Ix : Code → List α → World → Prop)
    (hI : ∀ s, St w.heap.size (I s)) (hIx : ∀ c s, St w.heap.size (Ix c s)) (hR : ∀ B, St B R) (hAdm : ∀ pre x, St w.heap.size (Adm pre x)) (hS : ∀ xs, St w.heap.size (S xs)) (hSp : ∀ xs, St w.heap.size (Sp xs))
    (hsz : ∀ pre W, I pre W → w.heap.size ≤ W.heap.size) (h0 : I [] w) (hR0 : R w)
    (mk : Nat → α → Act) (cs : α → Array Value) (tI : TypeId)
    (hassign : ∀ (l : Nat) (x : α) (j : Nat) (W : World) (K : Act → World → Prop), W.heap.size = j → K (mk j x) (W.alloc (.cells (cs x) tI)) →
      assign.wpIn (Fence.wide.inRound l) 0 P (Exit.then K (fun _ _ _ => False)) { tmps := (ps.zip (encs x)).foldl (fun t (p, v) => t.setIfInBounds p v) a.tmps, defers := [] } W)
    (hbody : ∀ (l : Nat) (pre : List α) (x : α) (j : Nat) (W : World), w.heap.size ≤ l → (∃ r, W.heap[l]? = some (.loop r)) → I pre W → R W → Adm pre x W → w.heap.size ≤ j → W.heap[j]? = some (.cells (cs x) tI (0, 0)) →
      body.wpIn (Fence.wide.inRound l) 0 P (rpost w.heap.size R I Ix (pre ++ [x]) W) (mk j x) W)
    (hdone : ∀ (D : Nat) (xs : List α) (W : World), w.heap.size ≤ D → S xs W → I xs W → R W → W.heap[D]? = some (.deferred (some [])) → Q .normal { a with defers := { target := .collected D, args := #[] } :: a.defers } W)
    (hstop : ∀ (D : Nat) (c : Code) (pre : List α) (W : World), w.heap.size ≤ D → Sp pre W → Ix c pre W → W.heap[D]? = some (.deferred (some [])) →
      c.wpIn Fence.wide 0 P Q { a with defers := { target := .collected D, args := #[] } :: a.defers } W) :
    (Code.rangeFunc g ps assign body).wpIn Fence.wide 0 P Q a w :=
  range_law hg eg hseq hps I Ix hI hIx (hR _) hAdm h0 hR0 (fun x a' W => ∃ j, w.heap.size ≤ j ∧ a' = mk j x ∧ W.heap[j]? = some (.cells (cs x) tI (0, 0)))
    (fun _ _ _ _ hk ⟨j, h1, h2, h3⟩ => ⟨j, h1, h2, hk.same _ _ h3 (.inl rfl)⟩)
    (fun l pre x W K hi hr ha hK => hassign l x _ W K rfl (hK _ _ ((KeepsOthers.alloc W _).from _) (hR 0 _ _ (Kept.alloc _ _ _) hr) (hI _ _ _ (Kept.alloc _ _ _) hi) (hAdm _ _ _ _ (Kept.alloc _ _ _) ha) ⟨_, hsz _ _ hi, rfl, World.alloc_heap_new W _⟩))
    (fun l pre x a' W hl hr2 hi hr ha hax => by obtain ⟨j, hj, rfl, hb⟩ := hax; exact hbody l pre x j W hl hr2 hi hr ha hj hb) hdone hstop hS hSp

/-- the normal way alone: no panic, no jump -/
def Nrm (Q : Exit → Act → World → Prop) : Exit → Act → World → Prop
  | .normal, a, w => Q .normal a w
  | _, _, _ => False
theorem wpIn_nrm {F : Fence} {n : Nat} {P : Program} {s : Code} {Q : Exit → Act → World → Prop} {a : Act} {w : World} (h : s.wpIn F n P (Nrm Q) a w) : s.wpIn F n P Q a w :=
  wpIn_mono h (fun e a w h => by cases e <;> first | exact h | exact h.elim)
end Go.Proofs.YtempicociampoaaDoor
