/- Ranges over a function whose iterator writes to boxes that lay there ahead of the range: told by their numbers (by gen_rangeb.py). The walks of strings.SplitSeq at a separator of one byte: its iterator. Ranges over a function that writes to blocks which it laid ahead of its first yield: they lie below M; what the consumer lays lies above (by gen_rangeq.py). The walks of a line's words: the iterator. Plain laws of markup: which texts may be; a source's parts are the parts of which it is. Plain laws of MarkupWords and MarkupMarks. The walk of chapter 11's tame. -/
import Derived.Test.YtempicociampoaaDoorJ0
import Derived.Test.YtempicociampoaaDoorJ21
import Derived.Lib.IndexLaws
import Derived.Shelf.Strings.Search3
import Derived.Test.YtempicociampoaaDoorJ19
import Derived.Test.YtempicociampoaaDoorUtfE
import Derived.Test.YtempicociampoaaDoorJ9
namespace Go.Proofs.YtempicociampoaaDoor
open Go.RowKit

/-- all cells stand but the iterator's boxes, and whatever else lies below B -/
structure KeptB (N : Nat → Bool) (B : Nat) (A C : World) : Prop where
  os : C.os = A.os
  tape : C.tape = A.tape
  output : C.output = A.output
  size : A.heap.size ≤ C.heap.size
  same : ∀ k o, A.heap[k]? = some o → N k = false → (o.isCells = true ∨ k < B) → C.heap[k]? = some o

theorem Kept.b {N : Nat → Bool} {B : Nat} {A C : World} (h : Kept B A C) : KeptB N B A C := ⟨h.os, h.tape, h.output, h.size, fun k o hk _ ho => h.same k o hk ho⟩
theorem KeptB.mono {N : Nat → Bool} {B B' : Nat} {A C : World} (h : KeptB N B A C) (hB : B' ≤ B) : KeptB N B' A C := ⟨h.os, h.tape, h.output, h.size, fun k o hk hn ho => h.same k o hk hn (ho.imp id (fun h => by omega))⟩
theorem KeptB.refl {N : Nat → Bool} (B : Nat) (A : World) : KeptB N B A A := ⟨rfl, rfl, rfl, Nat.le_refl _, fun _ _ h _ _ => h⟩
theorem KeptB.trans {N : Nat → Bool} {B : Nat} {A C D : World} (h : KeptB N B A C) (k : KeptB N B C D) : KeptB N B A D :=
  ⟨k.os.trans h.os, k.tape.trans h.tape, k.output.trans h.output, Nat.le_trans h.size k.size, fun i o hi hn ho => k.same i o (h.same i o hi hn ho) hn ho⟩
theorem KeptB.setCell {N : Nat → Bool} (B : Nat) (W : World) {b i : Nat} (hN : N b = true) (x : Value) : KeptB N B W (W.setCell ⟨b, i, none⟩ x) :=
  ⟨rfl, rfl, rfl, by simp [World.setCell], fun k o hk hn _ => by
    have e : k ≠ b := by rintro rfl; rw [hN] at hn; cases hn
    exact (setCell_off e).trans hk⟩
theorem KeptB.below {N : Nat → Bool} {B n₀ : Nat} {w0 A C : World} (h : KeptB N B A C) (hn : n₀ ≤ B) (hn0 : n₀ ≤ w0.heap.size) (hN : ∀ k, k < n₀ → N k = false) (hb : Below n₀ w0 A) : Below n₀ w0 C :=
  ⟨h.os.trans hb.os, h.tape.trans hb.tape, h.output.trans hb.output, Nat.le_trans hb.size h.size, fun k hk => by
    have e := hb.block k hk
    obtain ⟨o, ho⟩ : ∃ o, A.heap[k]? = some o := by
      have : k < A.heap.size := Nat.lt_of_lt_of_le (Nat.lt_of_lt_of_le hk hn0) hb.size
      exact ⟨_, Array.getElem?_eq_getElem this⟩
    rw [h.same k o ho (hN k hk) (.inr (by omega)), ← ho, e]⟩
theorem KeptB.blk {N : Nat → Bool} {B b : Nat} {A C : World} (h : KeptB N B A C) {cs : Array Value} {t : TypeId} {fr : Nat × Nat} (hc : A.heap[b]? = some (.cells cs t fr)) (ht : N b = false) : C.heap[b]? = some (.cells cs t fr) :=
  h.same _ _ hc ht (.inl rfl)
theorem KeptB.owns {N : Nat → Bool} {B : Nat} {A C : World} (hk : KeptB N B A C) {base : Nat} {e : TypeId} {size : Nat} {v : Value} {n : Nat} {xs : List Value} (ht : ∀ k, base ≤ k → N k = false) (h : A.ownsRow base e size v n xs) : C.ownsRow base e size v n xs := by
  obtain ⟨h1, h2⟩ := h
  refine ⟨h1, ?_⟩
  rcases h2 with h2 | ⟨g, cap, cur, hv, hg, hh, r⟩
  · exact .inl h2
  · exact .inr ⟨g, cap, cur, hv, hg, hk.same _ _ hh (ht _ hg) (.inl rfl), r⟩

def StB (N : Nat → Bool) (B : Nat) (I : World → Prop) : Prop := ∀ A C, KeptB N B A C → I A → I C
theorem StB.and {N : Nat → Bool} {B : Nat} {I J : World → Prop} (h : StB N B I) (k : StB N B J) : StB N B (fun W => I W ∧ J W) := fun _ _ hk ⟨a, b⟩ => ⟨h _ _ hk a, k _ _ hk b⟩
theorem StB.ex {N : Nat → Bool} {β : Type} {B : Nat} {I : β → World → Prop} (h : ∀ x, StB N B (I x)) : StB N B (fun W => ∃ x, I x W) := fun _ _ hk ⟨x, a⟩ => ⟨x, h x _ _ hk a⟩
theorem StB.pure {N : Nat → Bool} {B : Nat} (p : Prop) : StB N B (fun _ => p) := fun _ _ _ h => h

/-- what a round's body leaves alone: what is no cells, and the iterator's boxes -/
structure KeepsB (N : Nat → Bool) (B : Nat) (W W' : World) : Prop where
  size : W.heap.size ≤ W'.heap.size
  same : ∀ (k : Nat) (o : Obj), W.heap[k]? = some o → ((B ≤ k ∧ o.isCells = false) ∨ N k = true) → W'.heap[k]? = some o
theorem KeepsB.refl {N : Nat → Bool} (B : Nat) (W : World) : KeepsB N B W W := ⟨Nat.le_refl _, fun _ _ h _ => h⟩
theorem KeepsB.trans {N : Nat → Bool} {B : Nat} {X Y Z : World} (h : KeepsB N B X Y) (k : KeepsB N B Y Z) : KeepsB N B X Z := ⟨Nat.le_trans h.size k.size, fun i o hi ho => k.same i o (h.same i o hi ho) ho⟩
theorem KeepsB.mono {N : Nat → Bool} {B B' : Nat} {W W' : World} (h : KeepsB N B W W') (hB : B ≤ B') : KeepsB N B' W W' := ⟨h.size, fun k o h1 h2 => h.same k o h1 (h2.imp (fun h => ⟨by omega, h.2⟩) id)⟩
theorem KeepsB.alloc {N : Nat → Bool} (B : Nat) (W : World) (o : Obj) : KeepsB N B W (W.alloc o) := ⟨by simp, fun k _ hk _ => (Below.heap_alloc W o k (Array.getElem?_eq_some_iff.1 hk).1).trans hk⟩
theorem KeepsB.drew {N : Nat → Bool} (B : Nat) (W : World) : KeepsB N B W W.drew := ⟨Nat.le_refl _, fun _ _ h _ => h⟩
theorem KeepsB.of_below {N : Nat → Bool} (B : Nat) {W W' : World} (h : Below W.heap.size W W') : KeepsB N B W W' := ⟨h.size, fun k _ hk _ => (h.block k (Array.getElem?_eq_some_iff.1 hk).1).trans hk⟩
theorem KeepsB.setCell {N : Nat → Bool} (B : Nat) {W : World} {b i : Nat} {cs : Array Value} {t : TypeId} {fr : Nat × Nat} (h : W.heap[b]? = some (.cells cs t fr)) (ht : N b = false) (x : Value) : KeepsB N B W (W.setCell ⟨b, i, none⟩ x) :=
  ⟨by simp [World.setCell], fun k o hk ho => by
    by_cases e : k = b
    · subst e; rw [h] at hk; cases hk
      rcases ho with ho | ho
      · cases ho.2
      · rw [ht] at ho; cases ho
    · exact (setCell_off e).trans hk⟩
theorem KeepsB.grown {N : Nat → Bool} (B : Nat) {W W' : World} {base : Nat} {e : TypeId} {size : Nat} {v : Value} {n : Nat} {xs : List Value} (h : W.ownsRow base e size v n xs) (hN : ∀ k, base ≤ k → N k = false) (hg : W.grownBy W' v.ownBlock) : KeepsB N B W W' :=
  ⟨hg.size, fun k o hk ho => by
    by_cases e : some k = v.ownBlock
    · rcases h.2 with ⟨rfl, _⟩ | ⟨g, cap, cur, rfl, hgM, hh, _⟩
      · simp [Value.ownBlock] at e
      · simp [Value.ownBlock] at e
        subst e
        rw [hh] at hk; cases hk
        rcases ho with ho | ho
        · cases ho.2
        · rw [hN _ hgM] at ho; cases ho
    · exact (hg.block k (Array.getElem?_eq_some_iff.1 hk).1 e).trans hk⟩

section
variable {P : Program} {N : Nat → Bool} {α : Type} {g : Operand} {ps : Array Tmp} {assign body : Code} {Q : Exit → Act → World → Prop} {a : Act} {w : World} {gf : Nat} {lb : Array Value}
  {encs : α → Array Value} {Adm : List α → α → World → Prop} {S Sp : List α → World → Prop} {R R0 : World → Prop}

end

section
variable {P : Program} {N : Nat → Bool} {α : Type} {g : Operand} {ps : Array Tmp} {assign body : Code} {Q : Exit → Act → World → Prop} {a : Act} {w : World} {gf : Nat} {lb : Array Value}
  {encs : α → Array Value} {Adm : List α → α → World → Prop} {S Sp : List α → World → Prop} {R R0 : World → Prop}

end


end Go.Proofs.YtempicociampoaaDoor
namespace Go.Proofs.YtempicociampoaaDoor
open Go.RowKit Go.Shelf
attribute [local go_sem] Oper.semAt_some

def toB (l : L8) : ByteArray := ⟨l.toArray⟩
theorem toB_list (l : L8) : (toB l).data.toList = l := rfl
theorem toB_size (l : L8) : (toB l).size = l.length := rfl
theorem ba_toB (s : ByteArray) : toB s.data.toList = s := by
  obtain ⟨⟨a⟩⟩ := s; rfl
theorem ba_ext8 {a b : ByteArray} (h : a.data.toList = b.data.toList) : a = b := by rw [← ba_toB a, h, ba_toB]
theorem ex8 (s : ByteArray) (i j : Nat) : (s.extract i j).data.toList = (s.data.toList.take j).drop i := by
  simp [ByteArray.data_extract, List.take_drop]
  by_cases h : i ≤ j
  · rw [List.drop_take, show i + (j - i) - i = j - i by omega, List.drop_take]
  · rw [List.drop_eq_nil_of_le (by simp; omega), List.drop_eq_nil_of_le (by simp; omega)]
theorem size8 (s : ByteArray) : s.data.toList.length = s.size := by rw [Array.length_toList]; rfl

/-- a text's pieces between bytes of a kind -/
def pcsB (c : UInt8) (s : ByteArray) : List ByteArray := (cutB c s.data.toList).map toB
/-- what the iterator reads: the separator, and how much of it stays -/
def SpR (c : UInt8) (bp bq : Nat) (W : World) : Prop := W.heap[bp]? = some (.cells #[.string ⟨#[c]⟩] 9 (0, 0)) ∧ W.heap[bq]? = some (.cells #[.int .i64 0] 3 (0, 0))
theorem SpR.st {c : UInt8} {bp bq : Nat} (B : Nat) : St B (SpR c bp bq) := fun _ _ hk ⟨h1, h2⟩ => ⟨hk.same _ _ h1 (.inl rfl), hk.same _ _ h2 (.inl rfl)⟩
end Go.Proofs.YtempicociampoaaDoor
namespace Go.Proofs.YtempicociampoaaDoor
open Go.RowKit

def inM (B M : Nat) : Nat → Bool := fun k => decide (B ≤ k) && decide (k < M)
/-- one box of the iterator's has been written -/
theorem KeptB.box {b B M : Nat} {B' : Nat} {A C : World} (h : KeptB (fun k => k == b) B' A C) (hB : B ≤ B') (h1 : B ≤ b) (h2 : b < M) : KeptB (inM B M) B A C :=
  ⟨h.os, h.tape, h.output, h.size, fun k o hk hn ho => h.same k o hk (by simp [inM] at hn ⊢; omega) (ho.imp id (fun h => by omega))⟩
section
variable {P : Program} {α : Type} {g : Operand} {ps : Array Tmp} {assign body : Code} {Q : Exit → Act → World → Prop} {a : Act} {w : World} {gf : Nat} {lb : Array Value}
  {encs : α → Array Value} {Adm : List α → α → World → Prop} {S Sp : List α → World → Prop} {R : World → Prop}
end
end Go.Proofs.YtempicociampoaaDoor
namespace Go.Proofs.YtempicociampoaaDoor
open Go.RowKit Go.Shelf
attribute [local go_sem] Oper.semAt_some

/-- a line's words -/
def wdsB (s : ByteArray) : List ByteArray := (pcsB 32 s).filter fun w => !(w.size == 0)
theorem wdsB_words (s : ByteArray) : wdsB s = (wordsL s.data.toList).map toB := by
  unfold wdsB wordsL pcsB
  rw [List.filter_map]
  congr 1
  apply List.filter_congr
  intro x _
  cases x <;> simp [toB_size]
theorem Tryd.infoS : (Tryd.prog.info? 9).map (fun i => (i.zero, i.size, i.bytes)) = some (some (.string ⟨#[]⟩), 1, 16) := by kernel_rfl
def encT (s : ByteArray) : List Value := [.string s]
theorem owns_downQ {W : World} {b b' : Nat} {e : TypeId} {size : Nat} {v : Value} {n : Nat} {xs : List Value} (hb : b' ≤ b) (h : W.ownsRow b e size v n xs) : W.ownsRow b' e size v n xs := by
  obtain ⟨h1, h2⟩ := h
  refine ⟨h1, ?_⟩
  rcases h2 with h2 | ⟨g, cap, cur, hv, hg, r⟩
  · exact .inl h2
  · exact .inr ⟨g, cap, cur, hv, Nat.le_trans hb hg, r⟩

end Go.Proofs.YtempicociampoaaDoor
namespace Go.Proofs.YtempicociampoaaDoor
open Go.RowKit Go.Lib

/-- signs that may be -/
def clean (but : Int) (s : L8) : Prop := ∀ b ∈ s, (b.toNat : Int) = but ∨ ¬ ((b.toNat : Int) < 32 ∨ (b.toNat : Int) = 127)
def plainB (but : Int) (s : L8) : Prop := validD s = true ∧ clean but s
instance (but : Int) (s : L8) : Decidable (clean but s) := by unfold clean; infer_instance
instance (but : Int) (s : L8) : Decidable (plainB but s) := by unfold plainB; infer_instance
theorem clean_app {but : Int} {a b : L8} : clean but (a ++ b) ↔ clean but a ∧ clean but b := by
  unfold clean
  constructor
  · intro h; exact ⟨fun x hx => h x (List.mem_append_left _ hx), fun x hx => h x (List.mem_append_right _ hx)⟩
  · rintro ⟨h1, h2⟩ x hx
    rcases List.mem_append.1 hx with h | h
    · exact h1 x h
    · exact h2 x h
theorem enc_map (v : Int) : encodeRune v = (encodeRuneZ v).map fun z => z.toNat.toUInt8 := rfl
theorem enc_kind {v : Int} (h : okv v) : (v ≤ 127 ∧ encodeRune v = [v.toNat.toUInt8]) ∨ (128 ≤ v ∧ ∀ b ∈ encodeRune v, 128 ≤ b.toNat) := by
  have h0 := h.1
  have h1 := h.2.1
  rw [enc_map]
  rcases encZ_cases h with ⟨h2, e⟩ | ⟨h2, h3, e⟩ | ⟨h2, h3, e⟩ | ⟨h2, e⟩
  · left; exact ⟨h2, by rw [e]; rfl⟩
  all_goals
    right
    refine ⟨by omega, fun b hb => ?_⟩
    rw [e] at hb
    simp only [List.map_cons, List.map_nil, List.mem_cons, List.not_mem_nil, or_false] at hb
  · rcases hb with rfl | rfl
    · rw [b8 (by omega) (by omega)]; omega
    · rw [b8 (by omega) (by omega)]; omega
  · rcases hb with rfl | rfl | rfl
    · rw [b8 (by omega) (by omega)]; omega
    · rw [b8 (by omega) (by omega)]; omega
    · rw [b8 (by omega) (by omega)]; omega
  · rcases hb with rfl | rfl | rfl | rfl
    · rw [b8 (by omega) (by omega)]; omega
    · rw [b8 (by omega) (by omega)]; omega
    · rw [b8 (by omega) (by omega)]; omega
    · rw [b8 (by omega) (by omega)]; omega
/-- a sign that may be: its bytes may be -/
def okS (but x : Int) : Prop := x = but ∨ ¬ (x < 32 ∨ x = 127)
instance (but x : Int) : Decidable (okS but x) := by unfold okS; infer_instance
theorem clean_enc {but v : Int} (h : okv v) (_hb : but ≤ 127) : clean but (encodeRune v) ↔ okS but v := by
  have h0 := h.1
  rcases enc_kind h with ⟨h1, e⟩ | ⟨h1, h2⟩
  · rw [e]
    have e2 : ((v.toNat.toUInt8).toNat : Int) = v := by rw [b8 h0 (by omega)]; omega
    constructor
    · intro h
      have := h _ (List.mem_singleton.2 rfl)
      rw [e2] at this
      exact this
    · intro h b hb
      rw [List.mem_singleton.1 hb, e2]
      exact h
  · constructor
    · intro _; right; omega
    · intro _ b hbm; have := h2 b hbm; right; omega
theorem clean_txt {but : Int} (hb : but ≤ 127) : ∀ {xs : List Int}, (∀ x ∈ xs, okv x) → (clean but (txt xs) ↔ ∀ x ∈ xs, okS but x) := by
  intro xs
  induction xs with
  | nil => intro _; simp [txt, clean]
  | cons x r ih =>
    intro h
    rw [txt_cons, clean_app, clean_enc (h x List.mem_cons_self) hb, ih fun y hy => h y (List.mem_cons_of_mem _ hy)]
    simp
/-- words that may be -/
def goodW (w : L8) : Prop := w ≠ [] ∧ plainB 33 w ∧ (32 : UInt8) ∉ w
/-- parts that may be -/
def goodP (p : P8) : Prop := (∀ w ∈ p.2, goodW w) ∧ ((p.1 = 4 ∧ p.2 = []) ∨ ((p.1 = 2 ∨ p.1 = 3) ∧ p.2 ≠ []) ∨ (p.1 = 1 ∧ p.2 ≠ [] ∧ p.2 ≠ [[45, 45, 45]] ∧ (2 ≤ p.2.length → p.2.headD [] ≠ [61] ∧ p.2.headD [] ≠ [45])))
instance (w : L8) : Decidable (goodW w) := by unfold goodW; infer_instance
instance (p : P8) : Decidable (goodP p) := by unfold goodP; infer_instance
end Go.Proofs.YtempicociampoaaDoor
namespace Go.Proofs.YtempicociampoaaDoor
open Go.RowKit Go.Lib

/-- signs from 20 to 7e alone -/
def tameL (l : L8) : Prop := ∀ b ∈ l, 32 ≤ b.toNat ∧ b.toNat ≤ 126
instance (l : L8) : Decidable (tameL l) := by unfold tameL; infer_instance
end Go.Proofs.YtempicociampoaaDoor
namespace Go.Proofs.YtempicociampoaaDoor
open Go.RowKit Go.Shelf Go.Lib
/-- a text's words -/
def textB1 : List ByteArray → Bool
  | [] => false
  | [x] => !(x.toList == [45, 45, 45])
  | x :: _ => !(x.toList == [61]) && !(x.toList == [45])
/-- the kinds' own law -/
def kindB (k : Int) (ws : List ByteArray) : Bool :=
  if k = 4 then ws.isEmpty else if k = 2 ∨ k = 3 then !ws.isEmpty else if k = 1 then textB1 ws else false
def goodB (k : Int) (ws : List ByteArray) : Bool := (ws.all fun x => decide (goodW x.data.toList)) && kindB k ws
theorem empty8 (s : ByteArray) : s.toList.isEmpty = decide (s.data.toList = []) := by
  rw [Lib.toList_data]
  cases s.data.toList <;> simp

def allG (L : List Pt) : Bool := L.all fun x => goodB x.1 x.2.2

theorem wds8 (s : ByteArray) : (wdsB s).map (fun w => w.data.toList) = wordsL s.data.toList := by
  rw [wdsB_words, List.map_map]
  show List.map (fun x => (toB x).data.toList) _ = _
  simp [toB_list]

end Go.Proofs.YtempicociampoaaDoor
