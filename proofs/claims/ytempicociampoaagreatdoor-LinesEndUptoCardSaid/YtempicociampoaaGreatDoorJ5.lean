/- An append of a whole slice to one that the call owns. Arguments that came in: slices of strings, structs of five fields. Blocks that a call has laid, known whole: stores into them. The walks of measure.within, measure.Line. Plain laws of lines: the text of a line's pieces is the text of its items. -/
import Derived.BigFrame
import Derived.Test.YtempicociampoaaGreatDoorRange
import Derived.Laws.AppendOwnNone
import Derived.Test.YtempicociampoaaGreatDoorJ3
import Derived.Deep.Strs
import Derived.Lib.SmallJoins
namespace Go.Proofs.YtempicociampoaaGreatDoor
open Go.RowKit

section
variable {P : Program}
theorem run_append_sl {α : Type} (w : World) (base : Nat) (t ty e : TypeId) (i : TypeInfo) (z : Value) (size bytes : Nat) (ht : P.underlying t = some (.slice e)) (hi : P.info? e = some i) (hz : i.zero = some z)
  (hsize : i.size = size) (hby : i.bytes = bytes) (hzs : z.cells.size = size) (hsz : 0 < size) (v : Value) (n : Nat) (xs : List Value) (hown : w.ownsRow base e size v n xs)
  (enc : α → List Value) (vx : Value) (l : List α) (hx : Sl w size enc vx l) (he : ∀ x ∈ l, (enc x).length = size ∧ ∀ u ∈ enc x, u.oneCell' = true)
  (h63 : n + l.length ≤ maxLen) (hbytes : (n + l.length) * bytes ≤ 140737488355328) (hbase : base ≤ w.heap.size) :
  ∃ v' w', (Builtin.append_ #[t, t] ty #[v, vx]).run P w = .ok v' w' ∧ w'.ownsRow base e size v' (n + l.length) (xs ++ l.flatMap enc) ∧ w.grownBy w' v.ownBlock ∧ (v' = .slice none 0 0 ↔ v = .slice none 0 0 ∧ l = []) := by
 rcases hx with ⟨rfl, rfl⟩ | ⟨ad, cap, rfl, h1, h2, hsp, h3⟩
 ·exact ⟨v, w, run_append_owned_none (P := P) (w := w) base t ty e i size ht hi v n xs hown, by simpa using hown, ⟨rfl, rfl, rfl, Nat.le_refl _, fun _ _ _ => rfl⟩, by simp⟩
 ·have hlen : (l.flatMap enc).length = l.length * size := by
   clear h3 hbytes h63 h1 hsp
   induction l with
   | nil => simp
   | cons y l ih =>
    rw [List.flatMap_cons, List.length_append, (he y (by simp)).1, ih (fun x hx => he x (by simp [hx])), List.length_cons, Nat.succ_mul, Nat.add_comm]
  have key : ∀ (l : List α) (q : Nat), (∀ x ∈ l, (enc x).length = size) → (∀ i x, l[i]? = some x → w.rangeAt ad.block (q + i * size) (enc x)) → ∀ j u, (l.flatMap enc)[j]? = some u → w.cell? ⟨ad.block, q + j, none⟩ = some u := by
   intro l
   induction l with
   | nil => intro q _ _ j u h; simp at h
   | cons y l ih =>
    intro q hl hr j u h
    rw [List.flatMap_cons] at h
    by_cases hj : j < size
    ·rw [List.getElem?_append_left (by rw [hl y (by simp)]; exact hj)] at h
     have := hr 0 y (by simp) j u h
     simpa using this
    ·rw [List.getElem?_append_right (by rw [hl y (by simp)]; omega), hl y (by simp)] at h
     have := ih (q + size) (fun x hx => hl x (by simp [hx])) (fun i x hi => by have := hr (i + 1) x (by simpa using hi); rw [Nat.succ_mul] at this; rwa [show q + size + i * size = q + (i * size + size) by omega]) (j - size) u h
     rwa [show q + size + (j - size) = q + j by omega] at this
  obtain ⟨v', w', r1, r2, r3, r4⟩ := run_append_own (P := P) (w := w) base t ty e i z size bytes ht hi hz hsize hby hzs hsz v n xs hown ad l.length cap (l.flatMap enc) hlen
   (fun j u h => by
    have := key l ad.off (fun x hx => (he x hx).1) h3 j u h
    have hne : l ≠ [] := by rintro rfl; simp at h
    have e : ad.add j = ⟨ad.block, ad.off + j, none⟩ := by
     obtain ⟨b, o, sp⟩ := ad
     obtain rfl : sp = none := hsp hne
     unfold Addr.add; split <;> simp_all
    rwa [e])
   (fun u hu => by obtain ⟨x, hx, hu⟩ := List.mem_flatMap.1 hu; exact (he x hx).2 u hu) h63 hbytes hbase
  exact ⟨v', w', r1, r2, r3, by rw [r4, List.length_eq_zero_iff]⟩

theorem wpList_append_sl {α : Type} {w : World} {ops : Array Oper} {rest : List Oper} {o : Oper} {a : Act} {Q : Exit → Act → World → Prop}
  (hg : o.guard = none) (s x : Operand) (t : TypeId) (hop : o.op = Op.call { callee := Callee.builtin Builtin.append, args := #[s, x], argTypes := #[t, t] })
  (base : Nat) (e : TypeId) (i : TypeInfo) (z : Value) (size bytes : Nat) (h1 : P.underlying t = some (.slice e)) (h2 : P.info? e = some i) (h3 : i.zero = some z) (h4 : i.size = size) (h5 : i.bytes = bytes) (h6 : z.cells.size = size) (h7 : 0 < size)
  (v : Value) (k : Nat) (xs : List Value) (hs : a.eval s = v) (hown : w.ownsRow base e size v k xs)
  (enc : α → List Value) (vx : Value) (l : List α) (hx : a.eval x = vx) (hsl : Sl w size enc vx l) (he : ∀ x ∈ l, (enc x).length = size ∧ ∀ u ∈ enc x, u.oneCell' = true)
  (b1 : k + l.length ≤ maxLen) (b2 : (k + l.length) * bytes ≤ 140737488355328) (b3 : base ≤ w.heap.size)
  (hK : ∀ v' w', w'.ownsRow base e size v' (k + l.length) (xs ++ l.flatMap enc) → w.grownBy w' v.ownBlock → (v' = .slice none 0 0 ↔ v = .slice none 0 0 ∧ l = []) → wpList P ops Q rest (a.put o.dst v') w') :
  wpList P ops Q (o :: rest) a w := by
 refine wpList_plain hg fun K hK' => ?_
 obtain ⟨v', w', hrun, r1, r2, r3⟩ := run_append_sl (P := P) w base t o.type e i z size bytes h1 h2 h3 h4 h5 h6 h7 v k xs hown enc vx l hsl he b1 b2 b3
 unfold Oper.wp
 simp [execOp, hop, resolve, invoke, builtin, hs, hx, hrun, Result.andThen]
 exact hK' _ _ (hK v' w' r1 r2 r3)

theorem wpListIn_append_sl {α : Type} {F : Fence} {n : Nat} {w : World} {ops : Array Oper} {rest : List Oper} {o : Oper} {a : Act} {Q : Exit → Act → World → Prop}
  (hg : o.guard = none) (s x : Operand) (t : TypeId) (hop : o.op = Op.call { callee := Callee.builtin Builtin.append, args := #[s, x], argTypes := #[t, t] })
  (base : Nat) (e : TypeId) (i : TypeInfo) (z : Value) (size bytes : Nat) (h1 : P.underlying t = some (.slice e)) (h2 : P.info? e = some i) (h3 : i.zero = some z) (h4 : i.size = size) (h5 : i.bytes = bytes) (h6 : z.cells.size = size) (h7 : 0 < size)
  (v : Value) (k : Nat) (xs : List Value) (hs : a.eval s = v) (hown : w.ownsRow base e size v k xs)
  (enc : α → List Value) (vx : Value) (l : List α) (hx : a.eval x = vx) (hsl : Sl w size enc vx l) (he : ∀ x ∈ l, (enc x).length = size ∧ ∀ u ∈ enc x, u.oneCell' = true)
  (b1 : k + l.length ≤ maxLen) (b2 : (k + l.length) * bytes ≤ 140737488355328) (b3 : base ≤ w.heap.size)
  (hK : ∀ v' w', w'.ownsRow base e size v' (k + l.length) (xs ++ l.flatMap enc) → w.grownBy w' v.ownBlock → (v' = .slice none 0 0 ↔ v = .slice none 0 0 ∧ l = []) → wpListIn F n P ops Q rest (a.put o.dst v') w') :
  wpListIn F n P ops Q (o :: rest) a w := by
 refine wpListIn_plain hg fun K hK' => ?_
 obtain ⟨v', w', hrun, r1, r2, r3⟩ := run_append_sl (P := P) w base t o.type e i z size bytes h1 h2 h3 h4 h5 h6 h7 v k xs hown enc vx l hsl he b1 b2 b3
 unfold Oper.wpIn
 refine ⟨?_, ?_⟩
 ·simp [Oper.about, hop, resolve, Target.leads, Sem.run_pure]
 ·rw [Oper.semAt_plain F _ _ (by rw [hop]; intro c hc'; cases hc')]
  simp [execOp, hop, resolve, invoke, builtin, hs, hx, hrun, Result.andThen]
  exact hK' _ _ (hK v' w' r1 r2 r3)
end

theorem encI_enc (l : List Int) : ∀ x ∈ l, (encI x).length = 1 ∧ ∀ u ∈ encI x, u.oneCell' = true := fun x _ => ⟨rfl, fun u hu => by
 obtain rfl : u = .int .i64 x := by simpa [encI] using hu
 rfl⟩

end Go.Proofs.YtempicociampoaaGreatDoor
namespace Go.Proofs.YtempicociampoaaGreatDoor
open Go.ChangeShapes Go.WideShapes Go.ChangeAt Go.RowKit

def encS (s : ByteArray) : List Value := [.string s]

section
variable {H : Type} {enc : TypeId × Value → H} {P : Program}
end
end Go.Proofs.YtempicociampoaaGreatDoor
namespace Go.Proofs.YtempicociampoaaGreatDoor
open Go.RowKit

theorem setCell_blk {w : World} {b i : Nat} {x : Value} {cs : Array Value} {t : TypeId} {fr : Nat × Nat} (h : w.heap[b]? = some (.cells cs t fr)) :
  (w.setCell ⟨b, i, none⟩ x).heap[b]? = some (.cells (cs.setIfInBounds i x) t fr) := by
 obtain ⟨hb, he⟩ := Array.getElem?_eq_some_iff.1 h
 simp [World.setCell, hb, Array.getElem_modify, he]
theorem setCell_off {w : World} {b i k : Nat} {x : Value} (h : k ≠ b) : (w.setCell ⟨b, i, none⟩ x).heap[k]? = w.heap[k]? := by
 simp only [World.setCell]
 rw [Array.getElem?_modify]
 rw [if_neg (fun e => h e.symm)]

/-- one block is written, all else stands -/
structure Upd (S : Nat) (cs : Array Value) (t : TypeId) (W W' : World) : Prop where
 os : W'.os = W.os
 tape : W'.tape = W.tape
 output : W'.output = W.output
 size : W'.heap.size = W.heap.size
 here : W'.heap[S]? = some (.cells cs t (0, 0))
 off : ∀ k, k ≠ S → W'.heap[k]? = W.heap[k]?

theorem Upd.refl {S : Nat} {cs : Array Value} {t : TypeId} {W : World} (h : W.heap[S]? = some (.cells cs t (0, 0))) : Upd S cs t W W := ⟨rfl, rfl, rfl, rfl, h, fun _ _ => rfl⟩
theorem Upd.trans {S : Nat} {cs cs' : Array Value} {t t' : TypeId} {A C D : World} (h : Upd S cs t A C) (k : Upd S cs' t' C D) : Upd S cs' t' A D :=
 ⟨k.os.trans h.os, k.tape.trans h.tape, k.output.trans h.output, k.size.trans h.size, k.here, fun i hi => (k.off i hi).trans (h.off i hi)⟩
theorem Upd.is {S : Nat} {cs cs' : Array Value} {t : TypeId} {W W' : World} (h : Upd S cs t W W') (e : cs = cs') : Upd S cs' t W W' := e ▸ h
theorem Upd.set {S i : Nat} {cs : Array Value} {t : TypeId} {W W' : World} (h : Upd S cs t W W') (x : Value) : Upd S (cs.setIfInBounds i x) t W (W'.setCell ⟨S, i, none⟩ x) :=
 ⟨h.os, h.tape, h.output, by simp [World.setCell, h.size], setCell_blk h.here, fun k hk => (setCell_off hk).trans (h.off k hk)⟩
theorem Upd.drewN {S : Nat} {cs : Array Value} {t : TypeId} {W W' : World} (h : Upd S cs t W W') (n : Nat) : Upd S cs t W (W'.drewN n) := ⟨h.os, h.tape, h.output, h.size, h.here, h.off⟩
theorem Upd.drew {S : Nat} {cs : Array Value} {t : TypeId} {W W' : World} (h : Upd S cs t W W') : Upd S cs t W W'.drew := ⟨h.os, h.tape, h.output, h.size, h.here, h.off⟩
theorem Upd.cell {S : Nat} {cs : Array Value} {t : TypeId} {W W' : World} (h : Upd S cs t W W') {p : Addr} (hp : p.block ≠ S) : W'.cell? p = W.cell? p := by
 unfold World.cell?; rw [h.off _ hp]
theorem Upd.below {S B : Nat} {cs : Array Value} {t : TypeId} {w W W' : World} (h : Upd S cs t W W') (hB : Below B w W) (hS : B ≤ S) : Below B w W' :=
 ⟨h.os.trans hB.os, h.tape.trans hB.tape, h.output.trans hB.output, by rw [h.size]; exact hB.size, fun k hk => (h.off k (by omega)).trans (hB.block k hk)⟩
theorem Upd.from {S : Nat} {cs : Array Value} {t : TypeId} {W W' : World} (h : Upd S cs t W W') {cs0 : Array Value} {t0 : TypeId} {fr : Nat × Nat} (h0 : W.heap[S]? = some (.cells cs0 t0 fr)) (B : Nat) : KeepsFrom B W W' :=
 ⟨by rw [h.size]; exact Nat.le_refl _, fun k o _ hk ho => by
  by_cases e : k = S
  ·subst e; rw [h0] at hk; cases hk; cases ho
  ·exact (h.off k e).trans hk⟩
theorem Upd.sl {α : Type} {S : Nat} {cs : Array Value} {t : TypeId} {W W' : World} (h : Upd S cs t W W') {k : Nat} {enc : α → List Value} {p : Option Addr} {m c : Nat} {l : List α} (hp : ∀ a, p = some a → a.block ≠ S) (hs : Sl W k enc (.slice p m c) l) : Sl W' k enc (.slice p m c) l := by
 rcases hs with h1 | ⟨a, cap, h1, h2, h3, h4, h5⟩
 ·exact .inl h1
 ·refine .inr ⟨a, cap, h1, h2, h3, h4, fun i x hi j u hu => ?_⟩
  cases h1
  exact (h.cell (p := ⟨a.block, _, none⟩) (hp a rfl)).trans (h5 i x hi j u hu)
theorem cell_blk {w : World} {b i : Nat} {cs : Array Value} {t : TypeId} {fr : Nat × Nat} {v : Value} (h : w.heap[b]? = some (.cells cs t fr)) (hi : cs[i]? = some v) : w.cell? ⟨b, i, none⟩ = some v := by
 simp [World.cell?, h, hi]
theorem frozen_blk {w : World} {b i : Nat} {cs : Array Value} {t : TypeId} (h : w.heap[b]? = some (.cells cs t (0, 0))) : w.frozen? ⟨b, i, none⟩ = false := by
 simp [World.frozen?, h]

/-- the statement, outside of every round, whose assignments lay each thing in a block of its own -/
theorem range_box {P : Program} {α : Type} {g : Operand} {ps : Array Tmp} {assign body : Code} {Q : Exit → Act → World → Prop} {a : Act} {w : World} {gf : Nat} {lb : Array Value}
  {encs : α → Array Value} {Adm : List α → α → World → Prop} {S Sp : List α → World → Prop} {R : World → Prop}
  (hg : a.eval g = .func (.func gf) #[] lb) (eg : ∀ args w, (callFunc gf args).run P w = .ok (.enter gf args) w)
  (hseq : Seq P gf lb encs R Adm S Sp) (hps : ∀ x, (encs x).size = ps.size) (I : List α → World → Prop) (Ix : Code → List α → World → Prop)
  (hI : ∀ s, St w.heap.size (I s)) (hIx : ∀ c s, St w.heap.size (Ix c s)) (hR : ∀ B, St B R) (hAdm : ∀ pre x, St w.heap.size (Adm pre x)) (hS : ∀ xs, St w.heap.size (S xs)) (hSp : ∀ xs, St w.heap.size (Sp xs))
  (hsz : ∀ pre W, I pre W → w.heap.size ≤ W.heap.size) (h0 : I [] w) (hR0 : R w)
  (mk : Nat → α → Act) (cs : α → Array Value) (tI : TypeId)
  (hassign : ∀ (l : Nat) (x : α) (j : Nat) (W : World) (K : Act → World → Prop), W.heap.size = j → K (mk j x) (W.alloc (.cells (cs x) tI)) →
   assign.wpIn (Fence.wide.inRound l) 0 P (Exit.then K (fun _ _ _ => False)) { tmps := (ps.zip (encs x)).foldl (fun t (p, v) => t.setIfInBounds p v) a.tmps, defers := [] } W)
  (hbody : ∀ (l : Nat) (pre : List α) (x : α) (j : Nat) (W : World), w.heap.size ≤ l → (∃ r, W.heap[l]? = some (.loop r)) → I pre W → R W → Adm pre x W → w.heap.size ≤ j → W.heap[j]? = some (.cells (cs x) tI (0, 0)) →
   body.wpIn (Fence.wide.inRound l) 0 P (rpost w.heap.size R I Ix (pre ++ [x]) W) (mk j x) W)
  (hdone : ∀ (D : Nat) (xs : List α) (W : World), w.heap.size ≤ D → S xs W → I xs W → R W → W.heap[D]? = some (.deferred (some [])) → Q .normal { a with defers := { target := .collected D, args := #[] } :: a.defers } W)
  (hstop : ∀ (D : Nat) (c : Code) (pre : List α) (W : World), w.heap.size ≤ D → Sp pre W → Ix c pre W → W.heap[D]? = some (.deferred (some [])) →
   c.wpIn Fence.wide 0 P Q { a with defers := { target := .collected D, args := #[] } :: a.defers } W) :
  (Code.rangeFunc g ps assign body).wpIn Fence.wide 0 P Q a w :=
 range_law hg eg hseq hps I Ix hI hIx (hR _) hAdm h0 hR0 (fun x a' W => ∃ j, w.heap.size ≤ j ∧ a' = mk j x ∧ W.heap[j]? = some (.cells (cs x) tI (0, 0)))
  (fun _ _ _ _ hk ⟨j, h1, h2, h3⟩ => ⟨j, h1, h2, hk.same _ _ h3 (.inl rfl)⟩)
  (fun l pre x W K hi hr ha hK => hassign l x _ W K rfl (hK _ _ ((KeepsOthers.alloc W _).from _) (hR 0 _ _ (Kept.alloc _ _ _) hr) (hI _ _ _ (Kept.alloc _ _ _) hi) (hAdm _ _ _ _ (Kept.alloc _ _ _) ha) ⟨_, hsz _ _ hi, rfl, World.alloc_heap_new W _⟩))
  (fun l pre x a' W hl hr2 hi hr ha hax => by obtain ⟨j, hj, rfl, hb⟩ := hax; exact hbody l pre x j W hl hr2 hi hr ha hj hb) hdone hstop hS hSp

/-- the normal way alone: no panic, no jump -/
def Nrm (Q : Exit → Act → World → Prop) : Exit → Act → World → Prop
 | .normal, a, w => Q .normal a w
 | _, _, _ => False
theorem wpIn_nrm {F : Fence} {n : Nat} {P : Program} {s : Code} {Q : Exit → Act → World → Prop} {a : Act} {w : World} (h : s.wpIn F n P (Nrm Q) a w) : s.wpIn F n P Q a w :=
 wpIn_mono h (fun e a w h => by cases e <;> first | exact h | exact h.elim)
end Go.Proofs.YtempicociampoaaGreatDoor
namespace Go.Proofs.YtempicociampoaaGreatDoor
open Go.RowKit Go.Shelf
attribute [local go_sem] Oper.semAt_some

def WiR (ba bf bt : Nat) (v : Value) (n t : Int) (l : List It) (W : World) : Prop :=
 W.cell? ⟨ba, 0, none⟩ = some v ∧ W.cell? ⟨bf, 0, none⟩ = some (.int .i64 n) ∧ W.cell? ⟨bt, 0, none⟩ = some (.int .i64 t) ∧ Sl W 6 encIt v l
theorem WiR.st {ba bf bt : Nat} {v : Value} {n t : Int} {l : List It} (B : Nat) : St B (WiR ba bf bt v n t l) :=
 fun _ _ hk ⟨h1, h2, h3, h4⟩ => ⟨hk.cell h1, hk.cell h2, hk.cell h3, hk.sl h4⟩
def wiEnc (x : It × Nat) : Array Value := #[.int .i64 x.2, .agg (encIt x.1).toArray]
def wiL (l : List It) (f k : Nat) : List (It × Nat) := (mid l f k).zipIdx f
theorem mid_length {l : List It} {f t : Nat} (h : f ≤ t) (ht : t ≤ l.length) : (mid l f t).length = t - f := by unfold mid; simp; omega
theorem wiL_succ {l : List It} {f k : Nat} (h : f ≤ k) (hk : k < l.length) : wiL l f (k + 1) = wiL l f k ++ [(l[k], k)] := by
 unfold wiL
 rw [mid_succ h hk, List.zipIdx_append, mid_length h (by omega)]
 simp; omega
theorem wiL_self (l : List It) (f : Nat) : wiL l f f = [] := by unfold wiL; rw [mid_self]; rfl
theorem wiL_map (l : List It) (f k : Nat) : (wiL l f k).map Prod.fst = mid l f k := by unfold wiL; simp
theorem mid_none {l : List It} {f t : Nat} (h : t ≤ f) : mid l f t = [] := by
 unfold mid; rw [List.drop_eq_nil_iff]; simp; omega

theorem item_cells {w : World} {b o : Nat} {x : It} (h : w.rangeAt b o (encIt x)) : w.cell? ⟨b, o, none⟩ = some (.int .i64 x.kind) ∧ w.cell? ⟨b, o + 1, none⟩ = some (.int .i64 x.w) ∧ w.cell? ⟨b, o + 2, none⟩ = some (.int .i64 x.y) ∧
  w.cell? ⟨b, o + 3, none⟩ = some (.int .i64 x.z) ∧ w.cell? ⟨b, o + 4, none⟩ = some (.int .i64 x.cost) ∧ w.cell? ⟨b, o + 5, none⟩ = some (.string x.text) :=
 ⟨h 0 _ rfl, h 1 _ rfl, h 2 _ rfl, h 3 _ rfl, h 4 _ rfl, h 5 _ rfl⟩

set_option maxRecDepth 100000 in
set_option maxHeartbeats 1000000 in
theorem within1_seq (ba bf bt : Nat) (v : Value) (n : Int) (t : Nat) (l : List It) (hle : l.length ≤ 5000) (hn : w64 n) (ht : t ≤ l.length) :
  Seq Tryz.prog 118 #[.pointer (some ⟨ba, 0, none⟩), .pointer (some ⟨bf, 0, none⟩), .pointer (some ⟨bt, 0, none⟩)] wiEnc (WiR ba bf bt v n t l)
   (fun pre x _ => ∃ k, firstL l n ≤ k ∧ ∃ h : k < l.length, k < t ∧ pre = wiL l (firstL l n) k ∧ x = (l[k], k)) (fun xs _ => xs = wiL l (firstL l n) t) (fun _ _ => True) := by
 intro L J Jx W hJ hJx hY h0 hR0
 obtain ⟨hca, hcf, hct, hsl⟩ := hR0
 have hF := First_any v l n W hsl hle hn
 obtain ⟨p, c, rfl, hla⟩ := hsl.shape
 have hf := fst_le l (from1 n l.length)
 have hfe : firstL l n = fst l (from1 n l.length) := rfl
 rw [← hfe] at hf
 obtain ⟨f, hfd⟩ : ∃ f, firstL l n = f := ⟨_, rfl⟩
 rw [hfd] at hf hF hY ⊢
 clear hfe hfd
 unfold maxLen at hla
 refine calls_of_wpIn Tryz.func118 rfl ?_
 simp only [Tryz.ntmps118, List.size_toArray, List.length_cons, List.length_nil, Nat.reduceAdd, Nat.reduceSub, Array.replicate_succ, Array.replicate_zero, List.push_toArray, List.append_toArray, List.nil_append, List.cons_append]
 gi_wp2_with (fail)
 refine ⟨trivial, rfl, (callsIn_wide.2 hF).mono ?_⟩
 rintro e w' ⟨rfl, rfl⟩
 gi_wp2
 gi_loopw [5] (fun i wr => ∃ k : Nat, (k = f ∨ k ≤ t) ∧ f ≤ k ∧ k ≤ l.length ∧ i = .int .i64 k ∧ J (wiL l f k) wr ∧ WiR ba bf bt (.slice p l.length c) n t l wr) (fun i _ => l.length - (RowKit.intOf i).toNat)
 case atStart => exact ⟨f, .inl rfl, Nat.le_refl _, hf, rfl, by rw [wiL_self]; exact h0, ⟨hca, hcf, hct, hsl⟩⟩
 case round =>
  obtain ⟨k, hk0, hk1, hk2, rfl, hJs, hRs⟩ := hrel
  have hRs' := hRs
  obtain ⟨wca, wcf, wct, wsl⟩ := hRs
  by_cases hlt : k < t
  ·have hkl : k < l.length := by omega
   have hadm : ∃ k', f ≤ k' ∧ ∃ h : k' < l.length, k' < t ∧ wiL l f k = wiL l f k' ∧ (l[k], k) = (l[k'], k') := ⟨k, hk1, hkl, hlt, rfl, rfl⟩
   obtain ⟨fn, tmps, assign, body, hy, hR⟩ := hY _ (l[k], k) wr hJs hRs' hadm
   obtain ⟨b, o, cap', he, e1, e2, e3⟩ := wsl.open (by rintro rfl; simp at hkl)
   cases he
   obtain ⟨r0, r1, r2, r3, r4, r5⟩ := item_cells (e3 k l[k] (List.getElem?_eq_getElem hkl))
   have Hk1 := hid (wiL_succ hk1 hkl)
   clear e3 hadm
   dsimp only [wiEnc, encIt] at hy
   generalize l[k] = x at *
   gi_wp2
   refine ⟨rfl, hR.mono ?_⟩
   rintro e W3 (⟨rfl, hJ3, hR3, -⟩ | ⟨rfl, hJx3⟩)
   ·have hR3' := hR3
    obtain ⟨x1, x2, x3, x4⟩ := hR3
    gi_wp2
    go_roundw
    case rel => exact ⟨k + 1, .inr (by omega), by omega, by omega, by go_num, by rw [Hk1.out]; exact hJ3, hR3'⟩
    case measure => simp [RowKit.intOf]; omega
   ·gi_wp2
    refine bodyPost_ret (results_none rfl _ _ _) rfl ?_
    exact ⟨⟨_, rfl⟩, .inr ⟨_, trivial, hJx3⟩⟩
  ·gi_wp2
   go_end0
   refine ⟨⟨_, rfl⟩, .inl ⟨_, rfl, ?_, hRs'⟩⟩
   rcases hk0 with rfl | hk0
   ·rw [wiL_self] at hJs
    have : wiL l k t = [] := by unfold wiL; rw [mid_none (by omega)]; rfl
    rw [this]; exact hJs
   ·obtain rfl : k = t := by omega
    exact hJs

set_option maxHeartbeats 400000 in
theorem within_any (w : World) (v : Value) (p : Option Addr) (m c : Nat) (n t : Int) (ev : v = .slice p m c) :
  Calls Tryz.prog 103 #[v, .int .i64 n, .int .i64 t] w fun e w' =>
   e = .returned (.func (.func 118) #[] #[.pointer (some ⟨w.heap.size, 0, none⟩), .pointer (some ⟨w.heap.size + 1, 0, none⟩), .pointer (some ⟨w.heap.size + 2, 0, none⟩)]) ∧
   w' = ((w.alloc (.cells #[v] 40)).alloc (.cells #[.int .i64 n] 3)).alloc (.cells #[.int .i64 t] 3) := by
 subst ev
 go_enter Tryz.func103, Tryz.ntmps103
 go_wp2
 go_ret
 exact ⟨rfl, rfl⟩
end Go.Proofs.YtempicociampoaaGreatDoor
namespace Go.Proofs.YtempicociampoaaGreatDoor
open Go.RowKit

section
variable {tw : ByteArray → Int}
/-- what an item lays in a text -/
def txO (x : It) : List UInt8 := if x.kind = 1 then x.text.data.toList else if x.kind = 2 then [32] else []
def txL (l : List It) : List UInt8 := l.flatMap txO
theorem txL_snoc (l : List It) (x : It) : txL (l ++ [x]) = txL l ++ txO x := by simp [txL]
/-- a glue: a space or a tie; a pen; a box of nothing -/
def glW (x : It) : Prop := x.kind = 2 ∧ x.w = 4 ∧ ((x.y = 2 ∧ x.z = 1) ∨ (x.y = 0 ∧ x.z = 0))
def peX (x : It) : Prop := x.kind = 3 ∧ x.y = 0 ∧ x.z = 0
def emB (x : It) : Prop := x.kind = 1 ∧ x.text.size = 0 ∧ x.y = 0 ∧ x.z = 0
/-- items of a line: how far they have come (nothing yet; behind a box; behind a glue) -/
inductive Lw (tw : ByteArray → Int) : List It → Option Bool → Prop
 | nil : Lw tw [] none
 | box {m st x} : Lw tw m st → tb tw x → Lw tw (m ++ [x]) (some false)
 | emp {m x} : Lw tw m none → emB x → Lw tw (m ++ [x]) none
 | glue {m x} : Lw tw m (some false) → glW x → Lw tw (m ++ [x]) (some true)
 | pen {m st x} : Lw tw m st → peX x → Lw tw (m ++ [x]) st
theorem lineT_snoc (ps : List (Int × ByteArray)) (p : Int × ByteArray) : lineT tw (ps ++ [p]) = lineT tw ps ++ (if 0 < ps.length ∧ endW tw ps ≠ p.1 then [32] else []) ++ p.2.data.toList := by
 unfold lineT
 rw [List.length_append, List.length_singleton, lineTo]
 have h1 : lineTo tw (ps ++ [p]) ps.length = lineTo tw ps ps.length := by
  have h9 := lineTo_take (tw := tw) (ps ++ [p]) ps.length ps.length (Nat.le_refl _)
  rw [List.take_left] at h9
  exact h9.symm
 have h2 : (ps ++ [p]).getD ps.length pc0 = p := by rw [List.getD_eq_getElem?_getD, List.getElem?_append_right (Nat.le_refl _), Nat.sub_self]; rfl
 have h3 : gapK tw (ps ++ [p]) ps.length = true ↔ (0 < ps.length ∧ endW tw ps ≠ p.1) := by
  unfold gapK
  rw [List.take_left, h2]
  simp
 rw [h1, h2]
 by_cases h : 0 < ps.length ∧ endW tw ps ≠ p.1
 ·rw [if_pos h, if_pos (h3.2 h)]
 ·rw [if_neg h, if_neg (fun h9 => h (h3.1 h9))]
theorem endW_snoc (ps : List (Int × ByteArray)) (p : Int × ByteArray) : endW tw (ps ++ [p]) = p.1 + tw p.2 := by
 unfold endW; rw [List.getLast?_append]; rfl
theorem moved_same {d : Int} {s a b : Sm} (h1 : b.y = a.y) (h2 : b.z = a.z) : moved d s b = moved d s a := by unfold moved; rw [h1, h2]
theorem cur_tb {d : Int} {s a : Sm} {x : It} (h : tb tw x) : cur d s (a.step x) = cur d s a + x.w := by
 obtain ⟨k, -, -, b, e1, e2⟩ := h
 have e : a.step x = ⟨a.w + x.w, a.y, a.z⟩ := by
  unfold Sm.step; rw [if_neg (by omega), plain_eq b.1 b.2, e1, e2, show plain 0 = 0 by decide]; simp
 rw [e]
 have := moved_same (d := d) (s := s) (a := a) (b := ⟨a.w + x.w, a.y, a.z⟩) rfl rfl
 unfold cur; rw [this]; dsimp only; omega
theorem cur_pen {d : Int} {s a : Sm} {x : It} (h : peX x) : cur d s (a.step x) = cur d s a := by
 obtain ⟨k, e1, e2⟩ := h
 have e : a.step x = ⟨a.w, a.y, a.z⟩ := by
  unfold Sm.step; rw [if_pos k, e1, e2, show plain 0 = 0 by decide]; simp
 rw [e]
theorem cur_glue {d : Int} {s a : Sm} {x : It} (h : glW x) (h2 : 0 ≤ s.y) (h3 : 0 ≤ s.z) (h4 : 0 ≤ a.y) (h5 : 0 ≤ a.z) : cur d s a + 3 ≤ cur d s (a.step x) := by
 obtain ⟨k, e0, ⟨e1, e2⟩ | ⟨e1, e2⟩⟩ := h
 ·have e : a.step x = ⟨a.w + 4, a.y + 2, a.z + 1⟩ := by
   unfold Sm.step; rw [if_neg (by omega), e0, e1, e2, show plain 4 = 4 by decide, show plain 2 = 2 by decide, show plain 1 = 1 by decide]
  rw [e]
  unfold cur moved
  dsimp only
  split
  ·rename_i hd
   have := spread_mono (b := a.y + 2) hd h4 (by omega) h2
   omega
  ·have := spread_one (m := min (-d) s.z) (a := a.z) (z := s.z) (by omega) (by omega) h5
   omega
 ·have e : a.step x = ⟨a.w + 4, a.y, a.z⟩ := by
   unfold Sm.step; rw [if_neg (by omega), e0, e1, e2, show plain 4 = 4 by decide, show plain 0 = 0 by decide]; simp
  rw [e]
  have := moved_same (d := d) (s := s) (a := a) (b := ⟨a.w + 4, a.y, a.z⟩) rfl rfl
  unfold cur; rw [this]; dsimp only; omega
/-- what is known of a line's pieces, so far -/
def Lt (tw : ByteArray → Int) (d : Int) (s : Sm) (m : List It) : Option Bool → Prop
 | none => pcsOf d s m = [] ∧ txL m = []
 | some false => pcsOf d s m ≠ [] ∧ endW tw (pcsOf d s m) = cur d s (smOf m) ∧ lineT tw (pcsOf d s m) = txL m
 | some true => pcsOf d s m ≠ [] ∧ endW tw (pcsOf d s m) + 3 ≤ cur d s (smOf m) ∧ lineT tw (pcsOf d s m) ++ [32] = txL m
theorem Lw.text {d : Int} {s : Sm} (h2 : 0 ≤ s.y) (h3 : 0 ≤ s.z) {m : List It} {st : Option Bool} (h : Lw tw m st) : Lt tw d s m st := by
 induction h with
 | nil => exact ⟨rfl, rfl⟩
 | @box m st x hm hx ih =>
  obtain ⟨k, hs, hw, -⟩ := id hx
  have e1 := pcsOf_hit d s m x k hs
  have e2 : txO x = x.text.data.toList := if_pos k
  have e3 : cur d s (smOf (m ++ [x])) = cur d s (smOf m) + tw x.text := by rw [smOf_snoc, cur_tb hx, hw]
  unfold Lt
  rw [e1, txL_snoc, e2, endW_snoc, lineT_snoc, e3]
  refine ⟨by simp, rfl, ?_⟩
  cases st with
  | none =>
   obtain ⟨i1, i2⟩ := ih
   rw [i1, i2, if_neg (by simp)]; rfl
  | some b =>
   cases b with
   | false =>
    obtain ⟨i1, i2, i3⟩ := ih
    rw [if_neg (fun h => h.2 i2), i3, List.append_nil]
   | true =>
    obtain ⟨i1, i2, i3⟩ := ih
    have hp : 0 < (pcsOf d s m).length := List.length_pos_iff.2 i1
    rw [if_pos ⟨hp, fun h => by unfold cur at i2; omega⟩, i3]
 | @emp m x hm hx ih =>
  obtain ⟨i1, i2⟩ := ih
  have e1 := pcsOf_miss d s m x (fun h => h.2 hx.2.1)
  have e2 : txO x = [] := by
   unfold txO
   rw [if_pos hx.1]
   have : x.text.data.size = 0 := hx.2.1
   rw [Array.size_eq_zero_iff.1 this]
  exact ⟨by rw [e1, i1], by rw [txL_snoc, i2, e2]; rfl⟩
 | @glue m x hm hx ih =>
  obtain ⟨i1, i2, i3⟩ := ih
  have hk := hx.1
  have e1 := pcsOf_miss d s m x (fun h => by omega)
  have e2 : txO x = [32] := by unfold txO; rw [if_neg (by omega), if_pos hk]
  have hb := smOf_bd m
  have := cur_glue (d := d) (s := s) (a := smOf m) hx h2 h3 hb.2.1.1 hb.2.2.1
  unfold Lt
  rw [e1, txL_snoc, e2, smOf_snoc]
  exact ⟨i1, by omega, by rw [i3]⟩
 | @pen m st x hm hx ih =>
  have hk := hx.1
  have e1 := pcsOf_miss d s m x (fun h => by omega)
  have e2 : txO x = [] := by unfold txO; rw [if_neg (by omega), if_neg (by omega)]
  have e3 : cur d s (smOf (m ++ [x])) = cur d s (smOf m) := by rw [smOf_snoc, cur_pen hx]
  unfold Lt
  rw [e1, txL_snoc, e2, e3, List.append_nil]
  exact ih
end
end Go.Proofs.YtempicociampoaaGreatDoor
