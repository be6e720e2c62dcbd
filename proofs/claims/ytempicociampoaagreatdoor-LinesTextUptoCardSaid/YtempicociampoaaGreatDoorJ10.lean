/- The walk of slices.AppendSeq and Collect, of pieces. Ranges over a function whose iterator writes to boxes that lay there ahead of the range: told by their numbers (by gen_rangeb.py). Plain laws of lines: a line that is not overfull ends at the width, or ahead of it. The walk of keep.Pieces, of alike ones. -/
import Derived.Test.YtempicociampoaaGreatDoorJ9
import Derived.Test.YtempicociampoaaGreatDoorJ0
import Derived.Deep.QuietTactic
import Derived.BigQuiet
namespace Go.Proofs.YtempicociampoaaGreatDoor
open Go.RowKit Go.Shelf
attribute [local go_sem] Oper.semAt_some

theorem Tryz.infoPc : (Tryz.prog.info? 47).map (fun i => (i.zero, i.size, i.bytes)) = some (some (.agg #[.int .i64 0, .string ⟨#[]⟩]), 2, 24) := by kernel_rfl
def pcEnc (x : Int × ByteArray) : Array Value := #[.agg (encPc x).toArray]

/-- pieces as they lie: in a block of pieces -/
def PcAt (W : World) (v : Value) (l : List (Int × ByteArray)) : Prop := Sl W 2 encPc v l ∧ ∀ (a : Addr) (n m : Nat), v = .slice (some a) n m → ∃ cs fr, W.heap[a.block]? = some (.cells cs 47 fr)
theorem PcAt.kept {B : Nat} {W W' : World} {v : Value} {l : List (Int × ByteArray)} (h : PcAt W v l) (hk : Kept B W W') : PcAt W' v l :=
  ⟨hk.sl h.1, fun a n m e => by obtain ⟨cs, fr, hh⟩ := h.2 a n m e; exact ⟨cs, fr, hk.same _ _ hh (.inl rfl)⟩⟩
theorem own_typed {W : World} {base : Nat} {e : TypeId} {size : Nat} {v : Value} {n : Nat} {xs : List Value} (h : W.ownsRow base e size v n xs) {a : Addr} {m c : Nat} (hv : v = .slice (some a) m c) : ∃ cs fr, W.heap[a.block]? = some (.cells cs e fr) := by
  rcases h.2 with ⟨rfl, _⟩ | ⟨g, cap, cur, rfl, hg, hh, _⟩
  · cases hv
  · cases hv; exact ⟨cur, _, hh⟩
theorem cells_new (W : World) (cs : List Value) (t : TypeId) : ∀ (j : Nat) (u : Value), cs[j]? = some u → (W.alloc (.cells cs.toArray t)).cell? ((⟨W.heap.size, 0, none⟩ : Addr).add j) = some u := by
  intro j u h
  have h1 := World.alloc_heap_new W (.cells cs.toArray t)
  have : (⟨W.heap.size, 0, none⟩ : Addr).add j = ⟨W.heap.size, j, none⟩ := by simp [Addr.add]; omega
  rw [this]
  exact cell_blk h1 (by simpa using h)

set_option maxRecDepth 100000 in
set_option maxHeartbeats 2000000 in
theorem AppendSeq_any (w : World) (gf : Nat) (lb : Array Value) (N : TypeId → Bool) (hN1 : N 42 = false) (hN2 : N 47 = false) (R : World → Prop) (L : List (Int × ByteArray)) (hL : L.length ≤ 100000)
    (eg : ∀ args w, (callFunc gf args).run Tryz.prog w = .ok (.enter gf args) w) (hR : ∀ B, St B R) (hRB : ∀ W, Below w.heap.size w W → R W)
    (hseq : SeqX Tryz.prog N gf lb pcEnc R (fun pre x _ => pre ++ [x] <+: L) (fun xs _ => xs = L) (fun _ _ => True)) :
    Calls Tryz.prog 104 #[.slice none 0 0, .func (.func gf) #[] lb] w fun e w' => ∃ v, e = .returned v ∧ PcAt w' v L ∧ Below w.heap.size w w' := by
  obtain ⟨i0, hi, hz0, hz1, hz2⟩ := info_parts Tryz.infoPc
  refine calls_of_marks Tryz.func104 rfl ?_
  simp only [Tryz.ntmps104, List.size_toArray, List.length_cons, List.length_nil, Nat.reduceAdd, Nat.reduceSub, Array.replicate_succ, Array.replicate_zero, List.push_toArray, List.append_toArray, List.nil_append, List.cons_append]
  gi_wp2_with (fail)
  have bO := Boxed.new w 42 (.slice none 0 0)
  have hB0 : Below w.heap.size w (w.alloc (.cells #[.slice none 0 0] 42)) := (Below.refl _ w).alloc (Nat.le_refl _) _
  refine range_boxX rfl eg hseq (fun _ => rfl)
    (fun pre W => (∃ v, Boxed W w.heap.size 42 v ∧ W.ownsRow w.heap.size 47 2 v pre.length (pre.flatMap encPc)) ∧ w.heap.size + 1 ≤ W.heap.size ∧ Below w.heap.size w W)
    (fun _ _ _ => False) ?hI (fun _ _ _ _ _ h => h) hR (fun _ _ => St.pure _) (fun _ => St.pure _) (fun _ => St.pure _) ?hsz ?h0 (hRB _ hB0)
    ?mk (fun x => (encPc x).toArray) 47 ?assign ?body ?done ?stop
  case assign =>
    intro l x j W K hj hK
    dsimp only [pcEnc, encPc] at hK ⊢
    gi_wp2
    exact hK
  case hI =>
    rintro s A C hk ⟨⟨v, h1, h2⟩, h3, h4⟩
    exact ⟨⟨v, hk.blk h1 hN1, hk.owns hN2 h2⟩, Nat.le_trans h3 hk.size, hk.below (by simp) (Nat.le_refl _) h4⟩
  case hsz => exact fun _ _ h => by have := h.2.1; simp; omega
  case h0 => exact ⟨⟨_, bO, World.ownsRow_nil _ _ _ _⟩, by simp, hB0⟩
  case body =>
    rintro l pre x j W hl2 _ ⟨⟨v, hv, hrow⟩, hsz, hB⟩ hR' hadm hj hx
    have hpl : pre.length + 1 ≤ 100000 := by
      obtain ⟨t, ht⟩ := hadm
      have := congrArg List.length ht
      simp at this; omega
    have hc := hv.cell
    dsimp only [encPc] at hx ⊢
    have x1 := cell_blk (i := 0) hx rfl
    have x2 := cell_blk (i := 1) hx rfl
    clear hadm hL
    gi_wp2_with (gi_at_builtin; go_must (refine wpListIn_append_own _ rfl _ _ 42 rfl w.heap.size 47 i0 (.agg #[.int .i64 0, .string ⟨#[]⟩]) 2 24 Tryz.underlying42 hi hz0 hz1 hz2 rfl (by decide) _ _ _ rfl (hrow.alloc _) ⟨W.heap.size, 0, none⟩ 1 1 [.int .i64 x.1, .string x.2] rfl rfl ?_ (by simp [Value.oneCell']) (by unfold maxLen; omega) (by omega) (by have := hB.size; simp; omega) ?_; rotate_left; intro v' w1 hown' hgrow _; obtain ⟨g', cap', rfl⟩ := ownsRow_succ hown'; obtain ⟨hv1, hv2, hr2, hk2, hb2⟩ := hv.appended (by decide) hrow hB.size (Nat.le_refl _) hown' hgrow; have hkx : KeepsX N w.heap.size W w1 := (KeepsX.alloc _ _ _).trans (KeepsX.grown _ hgrow (owns_type (hrow.alloc _) hN2)); have hc1 := hv1.cell; have hf1 := hv1.frozen))
    · have hB2 := hB.trans hb2
      refine ⟨(hkx.trans (KeepsX.setCell _ hv1 hN1 _)).mono (by simp), hRB _ hB2, ⟨_, hv2, ?_⟩, Nat.le_trans hsz hb2.size, hB2⟩
      simpa [encPc] using hr2
    · exact cells_new W _ _
  case done =>
    rintro D ys W hD rfl ⟨⟨v, hv, hrow⟩, hsz, hB⟩ hR' hK
    have hc := hv.cell
    have hsl : PcAt W v ys := ⟨sl_of_owns (enc := encPc) (fun _ _ => rfl) hrow, fun a n m e => own_typed hrow e⟩
    gi_wp2
    refine leave1 hK (fun _ _ => results_tmp rfl _ _ _) ⟨_, rfl, ?_, ?_⟩
    · exact hsl.kept (Kept.putObj (B := 0) _ (Nat.zero_le _) hK rfl)
    · exact (Kept.putObj (B := w.heap.size) (.deferred none) (by simp at hD; omega) hK rfl).below (Nat.le_refl _) (Nat.le_refl _) hB
  case stop =>
    rintro D c pre W _ _ h _
    exact h.elim

set_option maxRecDepth 100000 in
set_option maxHeartbeats 2000000 in
theorem Collect_any (w : World) (gf : Nat) (lb : Array Value) (N : TypeId → Bool) (hN1 : N 42 = false) (hN2 : N 47 = false) (R : World → Prop) (L : List (Int × ByteArray)) (hL : L.length ≤ 100000)
    (eg : ∀ args w, (callFunc gf args).run Tryz.prog w = .ok (.enter gf args) w) (hR : ∀ B, St B R) (hRB : ∀ W, Below w.heap.size w W → R W)
    (hseq : SeqX Tryz.prog N gf lb pcEnc R (fun pre x _ => pre ++ [x] <+: L) (fun xs _ => xs = L) (fun _ _ => True)) :
    Calls Tryz.prog 78 #[.func (.func gf) #[] lb] w fun e w' => ∃ v, e = .returned v ∧ PcAt w' v L ∧ Below w.heap.size w w' := by
  have hc := hid (AppendSeq_any w gf lb N hN1 hN2 R L hL eg hR hRB hseq)
  clear hseq eg
  go_enter Tryz.func78, Tryz.ntmps78
  go_wp2_with (fail)
  refine hc.out.mono ?_
  rintro e w' ⟨v, rfl, h1, h2⟩
  go_wp2
  go_ret
  exact ⟨_, rfl, h1, h2⟩
end Go.Proofs.YtempicociampoaaGreatDoor
namespace Go.Proofs.YtempicociampoaaGreatDoor
open Go.RowKit

/-- all cells stand but the iterator's boxes, and whatever else lies below B -/
structure KeptB (N : Nat → Bool) (B : Nat) (A C : World) : Prop where
  os : C.os = A.os
  tape : C.tape = A.tape
  output : C.output = A.output
  size : A.heap.size ≤ C.heap.size
  same : ∀ k o, A.heap[k]? = some o → N k = false → (o.isCells = true ∨ k < B) → C.heap[k]? = some o

theorem Kept.b {N : Nat → Bool} {B : Nat} {A C : World} (h : Kept B A C) : KeptB N B A C := ⟨h.os, h.tape, h.output, h.size, fun k o hk _ ho => h.same k o hk ho⟩
theorem KeptB.mono {N : Nat → Bool} {B B' : Nat} {A C : World} (h : KeptB N B A C) (hB : B' ≤ B) : KeptB N B' A C := ⟨h.os, h.tape, h.output, h.size, fun k o hk hn ho => h.same k o hk hn (ho.imp id (fun h => by omega))⟩
theorem KeptB.refl {N : Nat → Bool} (B : Nat) (A : World) : KeptB N B A A := ⟨rfl, rfl, rfl, Nat.le_refl _, fun _ _ h _ _ => h⟩
theorem KeptB.trans {N : Nat → Bool} {B : Nat} {A C D : World} (h : KeptB N B A C) (k : KeptB N B C D) : KeptB N B A D :=
  ⟨k.os.trans h.os, k.tape.trans h.tape, k.output.trans h.output, Nat.le_trans h.size k.size, fun i o hi hn ho => k.same i o (h.same i o hi hn ho) hn ho⟩
theorem KeptB.setCell {N : Nat → Bool} (B : Nat) (W : World) {b i : Nat} (hN : N b = true) (x : Value) : KeptB N B W (W.setCell ⟨b, i, none⟩ x) :=
  ⟨rfl, rfl, rfl, by simp [World.setCell], fun k o hk hn _ => by
    have e : k ≠ b := by rintro rfl; rw [hN] at hn; cases hn
    exact (setCell_off e).trans hk⟩
theorem KeptB.below {N : Nat → Bool} {B n₀ : Nat} {w0 A C : World} (h : KeptB N B A C) (hn : n₀ ≤ B) (hn0 : n₀ ≤ w0.heap.size) (hN : ∀ k, k < n₀ → N k = false) (hb : Below n₀ w0 A) : Below n₀ w0 C :=
  ⟨h.os.trans hb.os, h.tape.trans hb.tape, h.output.trans hb.output, Nat.le_trans hb.size h.size, fun k hk => by
    have e := hb.block k hk
    obtain ⟨o, ho⟩ : ∃ o, A.heap[k]? = some o := by
      have : k < A.heap.size := Nat.lt_of_lt_of_le (Nat.lt_of_lt_of_le hk hn0) hb.size
      exact ⟨_, Array.getElem?_eq_getElem this⟩
    rw [h.same k o ho (hN k hk) (.inr (by omega)), ← ho, e]⟩
theorem KeptB.blk {N : Nat → Bool} {B b : Nat} {A C : World} (h : KeptB N B A C) {cs : Array Value} {t : TypeId} {fr : Nat × Nat} (hc : A.heap[b]? = some (.cells cs t fr)) (ht : N b = false) : C.heap[b]? = some (.cells cs t fr) :=
  h.same _ _ hc ht (.inl rfl)
theorem KeptB.owns {N : Nat → Bool} {B : Nat} {A C : World} (hk : KeptB N B A C) {base : Nat} {e : TypeId} {size : Nat} {v : Value} {n : Nat} {xs : List Value} (ht : ∀ k, base ≤ k → N k = false) (h : A.ownsRow base e size v n xs) : C.ownsRow base e size v n xs := by
  obtain ⟨h1, h2⟩ := h
  refine ⟨h1, ?_⟩
  rcases h2 with h2 | ⟨g, cap, cur, hv, hg, hh, r⟩
  · exact .inl h2
  · exact .inr ⟨g, cap, cur, hv, hg, hk.same _ _ hh (ht _ hg) (.inl rfl), r⟩

def StB (N : Nat → Bool) (B : Nat) (I : World → Prop) : Prop := ∀ A C, KeptB N B A C → I A → I C
theorem StB.and {N : Nat → Bool} {B : Nat} {I J : World → Prop} (h : StB N B I) (k : StB N B J) : StB N B (fun W => I W ∧ J W) := fun _ _ hk ⟨a, b⟩ => ⟨h _ _ hk a, k _ _ hk b⟩
theorem StB.ex {N : Nat → Bool} {β : Type} {B : Nat} {I : β → World → Prop} (h : ∀ x, StB N B (I x)) : StB N B (fun W => ∃ x, I x W) := fun _ _ hk ⟨x, a⟩ => ⟨x, h x _ _ hk a⟩
theorem StB.pure {N : Nat → Bool} {B : Nat} (p : Prop) : StB N B (fun _ => p) := fun _ _ _ h => h

/-- what a round's body leaves alone: what is no cells, and the iterator's boxes -/
structure KeepsB (N : Nat → Bool) (B : Nat) (W W' : World) : Prop where
  size : W.heap.size ≤ W'.heap.size
  same : ∀ (k : Nat) (o : Obj), W.heap[k]? = some o → ((B ≤ k ∧ o.isCells = false) ∨ N k = true) → W'.heap[k]? = some o
theorem KeepsB.refl {N : Nat → Bool} (B : Nat) (W : World) : KeepsB N B W W := ⟨Nat.le_refl _, fun _ _ h _ => h⟩
theorem KeepsB.trans {N : Nat → Bool} {B : Nat} {X Y Z : World} (h : KeepsB N B X Y) (k : KeepsB N B Y Z) : KeepsB N B X Z := ⟨Nat.le_trans h.size k.size, fun i o hi ho => k.same i o (h.same i o hi ho) ho⟩
theorem KeepsB.mono {N : Nat → Bool} {B B' : Nat} {W W' : World} (h : KeepsB N B W W') (hB : B ≤ B') : KeepsB N B' W W' := ⟨h.size, fun k o h1 h2 => h.same k o h1 (h2.imp (fun h => ⟨by omega, h.2⟩) id)⟩
theorem KeepsB.alloc {N : Nat → Bool} (B : Nat) (W : World) (o : Obj) : KeepsB N B W (W.alloc o) := ⟨by simp, fun k _ hk _ => (Below.heap_alloc W o k (Array.getElem?_eq_some_iff.1 hk).1).trans hk⟩
theorem KeepsB.drew {N : Nat → Bool} (B : Nat) (W : World) : KeepsB N B W W.drew := ⟨Nat.le_refl _, fun _ _ h _ => h⟩
theorem KeepsB.of_below {N : Nat → Bool} (B : Nat) {W W' : World} (h : Below W.heap.size W W') : KeepsB N B W W' := ⟨h.size, fun k _ hk _ => (h.block k (Array.getElem?_eq_some_iff.1 hk).1).trans hk⟩
theorem KeepsB.setCell {N : Nat → Bool} (B : Nat) {W : World} {b i : Nat} {cs : Array Value} {t : TypeId} {fr : Nat × Nat} (h : W.heap[b]? = some (.cells cs t fr)) (ht : N b = false) (x : Value) : KeepsB N B W (W.setCell ⟨b, i, none⟩ x) :=
  ⟨by simp [World.setCell], fun k o hk ho => by
    by_cases e : k = b
    · subst e; rw [h] at hk; cases hk
      rcases ho with ho | ho
      · cases ho.2
      · rw [ht] at ho; cases ho
    · exact (setCell_off e).trans hk⟩
theorem KeepsB.grown {N : Nat → Bool} (B : Nat) {W W' : World} {base : Nat} {e : TypeId} {size : Nat} {v : Value} {n : Nat} {xs : List Value} (h : W.ownsRow base e size v n xs) (hN : ∀ k, base ≤ k → N k = false) (hg : W.grownBy W' v.ownBlock) : KeepsB N B W W' :=
  ⟨hg.size, fun k o hk ho => by
    by_cases e : some k = v.ownBlock
    · rcases h.2 with ⟨rfl, _⟩ | ⟨g, cap, cur, rfl, hgM, hh, _⟩
      · simp [Value.ownBlock] at e
      · simp [Value.ownBlock] at e
        subst e
        rw [hh] at hk; cases hk
        rcases ho with ho | ho
        · cases ho.2
        · rw [hN _ hgM] at ho; cases ho
    · exact (hg.block k (Array.getElem?_eq_some_iff.1 hk).1 e).trans hk⟩

section
variable {P : Program} {N : Nat → Bool} {α : Type} {g : Operand} {ps : Array Tmp} {assign body : Code} {Q : Exit → Act → World → Prop} {a : Act} {w : World} {gf : Nat} {lb : Array Value}
  {encs : α → Array Value} {Adm : List α → α → World → Prop} {S Sp : List α → World → Prop} {R R0 : World → Prop}

end

section
variable {P : Program} {N : Nat → Bool} {α : Type} {g : Operand} {ps : Array Tmp} {assign body : Code} {Q : Exit → Act → World → Prop} {a : Act} {w : World} {gf : Nat} {lb : Array Value}
  {encs : α → Array Value} {Adm : List α → α → World → Prop} {S Sp : List α → World → Prop} {R R0 : World → Prop}

end


end Go.Proofs.YtempicociampoaaGreatDoor
namespace Go.Proofs.YtempicociampoaaGreatDoor
open Go.RowKit

section
variable {tw : ByteArray → Int}
end
end Go.Proofs.YtempicociampoaaGreatDoor
namespace Go.Proofs.YtempicociampoaaGreatDoor
open Go.RowKit Go.Shelf

end Go.Proofs.YtempicociampoaaGreatDoor
