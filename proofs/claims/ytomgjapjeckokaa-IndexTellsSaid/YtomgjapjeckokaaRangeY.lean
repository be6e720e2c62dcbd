/- More on ranges over a function: things in blocks of their own (by gen_rangex.py). -/
import Derived.Test.YtomgjapjeckokaaRangeX
namespace Go.Proofs.Ytomgjapjeckokaa
open Go.RowKit

/-- the statement, outside of every round, whose assignments lay each thing in a block of its own -/
theorem range_boxX {N : TypeId → Bool} {P : Program} {α : Type} {g : Operand} {ps : Array Tmp} {assign body : Code} {Q : Exit → Act → World → Prop} {a : Act} {w : World} {gf : Nat} {lb : Array Value}
    {encs : α → Array Value} {Adm : List α → α → World → Prop} {S Sp : List α → World → Prop} {R : World → Prop}
    (hg : a.eval g = .func (.func gf) #[] lb) (eg : ∀ args w, (callFunc gf args).run P w = .ok (.enter gf args) w)
    (hseq : SeqX P N gf lb encs R Adm S Sp) (hps : ∀ x, (encs x).size = ps.size) (I : List α → World → Prop) (Ix : Code → List α → World → Prop)
    (hI : ∀ s, StX N w.heap.size (I s)) (hIx : ∀ c s, StX N w.heap.size (Ix c s)) (hR : ∀ B, St B R) (hAdm : ∀ pre x, St w.heap.size (Adm pre x)) (hS : ∀ xs, St w.heap.size (S xs)) (hSp : ∀ xs, St w.heap.size (Sp xs))
    (hsz : ∀ pre W, I pre W → w.heap.size ≤ W.heap.size) (h0 : I [] w) (hR0 : R w)
    (mk : Nat → α → Act) (cs : α → Array Value) (tI : TypeId)
    (hassign : ∀ (l : Nat) (x : α) (j : Nat) (W : World) (K : Act → World → Prop), W.heap.size = j → K (mk j x) (W.alloc (.cells (cs x) tI)) →
      assign.wpIn (Fence.wide.inRound l) 0 P (Exit.then K (fun _ _ _ => False)) { tmps := (ps.zip (encs x)).foldl (fun t (p, v) => t.setIfInBounds p v) a.tmps, defers := [] } W)
    (hbody : ∀ (l : Nat) (pre : List α) (x : α) (j : Nat) (W : World), w.heap.size ≤ l → (∃ r, W.heap[l]? = some (.loop r)) → I pre W → R W → Adm pre x W → w.heap.size ≤ j → W.heap[j]? = some (.cells (cs x) tI (0, 0)) →
      body.wpIn (Fence.wide.inRound l) 0 P (rpostX N w.heap.size R I Ix (pre ++ [x]) W) (mk j x) W)
    (hdone : ∀ (D : Nat) (xs : List α) (W : World), w.heap.size ≤ D → S xs W → I xs W → R W → W.heap[D]? = some (.deferred (some [])) → Q .normal { a with defers := { target := .collected D, args := #[] } :: a.defers } W)
    (hstop : ∀ (D : Nat) (c : Code) (pre : List α) (W : World), w.heap.size ≤ D → Sp pre W → Ix c pre W → W.heap[D]? = some (.deferred (some [])) →
      c.wpIn Fence.wide 0 P Q { a with defers := { target := .collected D, args := #[] } :: a.defers } W) :
    (Code.rangeFunc g ps assign body).wpIn Fence.wide 0 P Q a w :=
  range_lawX hg eg hseq hps I Ix hI hIx (hR _) hAdm h0 hR0 (fun x a' W => ∃ j, w.heap.size ≤ j ∧ a' = mk j x ∧ W.heap[j]? = some (.cells (cs x) tI (0, 0)))
    (fun _ _ _ _ hk ⟨j, h1, h2, h3⟩ => ⟨j, h1, h2, hk.same _ _ h3 (.inl rfl)⟩)
    (fun l pre x W K hi hr ha hK => hassign l x _ W K rfl (hK _ _ (KeepsX.alloc _ W _) (hR 0 _ _ (Kept.alloc _ _ _) hr) (hI _ _ _ (Kept.alloc _ _ _).x hi) (hAdm _ _ _ _ (Kept.alloc _ _ _) ha) ⟨_, hsz _ _ hi, rfl, World.alloc_heap_new W _⟩))
    (fun l pre x a' W hl hr2 hi hr ha hax => by obtain ⟨j, hj, rfl, hb⟩ := hax; exact hbody l pre x j W hl hr2 hi hr ha hj hb) hdone hstop hS hSp


theorem KeepsX.grown {N : TypeId → Bool} (B : Nat) {W W' : World} {row : Option Nat} (hg : W.grownBy W' row) (hrow : ∀ j o, row = some j → W.heap[j]? = some o → o.isCells = true ∧ ownT N o = false) : KeepsX N B W W' :=
  ⟨hg.size, fun k o _ hk ho => by
    by_cases e : some k = row
    · obtain ⟨h1, h2⟩ := hrow k o e.symm hk
      rcases ho with ho | ho
      · rw [h1] at ho; cases ho
      · rw [h2] at ho; cases ho
    · exact (hg.block k (Array.getElem?_eq_some_iff.1 hk).1 e).trans hk⟩
theorem owns_type {N : TypeId → Bool} {W : World} {base : Nat} {e : TypeId} {size : Nat} {v : Value} {n : Nat} {xs : List Value} (h : W.ownsRow base e size v n xs) (ht : N e = false) : ∀ j o, v.ownBlock = some j → W.heap[j]? = some o → o.isCells = true ∧ ownT N o = false := by
  intro j o hj ho
  rcases h.2 with ⟨rfl, _⟩ | ⟨g, cap, cur, rfl, hg, hh, _⟩
  · simp [Value.ownBlock] at hj
  · simp [Value.ownBlock] at hj
    subst hj
    rw [hh] at ho; cases ho
    exact ⟨rfl, ht⟩

end Go.Proofs.Ytomgjapjeckokaa
