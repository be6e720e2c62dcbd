/- The walk of items.Text. The walk of strings.Builder's WriteByte: what is neither a builder nor bytes stands. The walk of layer 14's wakes. Plain laws of a part's items: what ItemsText and ItemsWords ask of them. Plain laws of a word's items: their texts, their pens; of a part of two words. Plain laws of lines: a part's items are in order. Plain laws of a word's pieces: signs of letters are their bytes. -/
import Derived.Test.YtempicociampoaaGreatDoorJ20
import Derived.Test.YtempicociampoaaGreatDoorJ8
import Derived.Test.YtempicociampoaaGreatDoorJ10
import Derived.Test.YtempicociampoaaGreatDoorJ6
import Derived.Test.YtempicociampoaaGreatDoorJ1
import Derived.Test.YtempicociampoaaGreatDoorJ12
import Derived.Test.YtempicociampoaaGreatDoorJ2
namespace Go.Proofs.YtempicociampoaaGreatDoor
open Go.RowKit Go.Shelf

/-- what one item says -/
def textOf (x : It) : List UInt8 := if x.kind = 1 then x.text.data.toList else if x.kind = 2 then [32] else []
/-- the text of items -/
def textB (l : List It) : List UInt8 := l.flatMap textOf
theorem textB_append (a b : List It) : textB (a ++ b) = textB a ++ textB b := by simp [textB]
theorem byteCells_app (a b : List UInt8) : Lib.byteCells (a ++ b) = Lib.byteCells a ++ Lib.byteCells b := by simp [Lib.byteCells]

end Go.Proofs.YtempicociampoaaGreatDoor
namespace Go.Proofs.YtempicociampoaaGreatDoor
open Go.RowKit Go.Shelf

/-- what is neither a builder nor bytes stands -/
def OthT (w w' : World) : Prop := ∀ (k : Nat) (cs : Array Value) (t : TypeId) (fr : Nat × Nat), w.heap[k]? = some (.cells cs t fr) → t ≠ 68 → t ≠ 5 → w'.heap[k]? = some (.cells cs t fr)
theorem isb_below {B b : Nat} {bs : List Value} {W W' : World} (h : Lib.IsBuilderF 68 5 B b bs W) (hb : Below W.heap.size W W') : Lib.IsBuilderF 68 5 B b bs W' := by
 have at' : ∀ {p : Value}, Lib.BuilderAtF 68 5 B b p bs W → Lib.BuilderAtF 68 5 B b p bs W' := fun h => by
  have hlt := h.lt
  obtain ⟨hB, v, hv, hown, hne⟩ := h
  exact ⟨hB, v, (hb.block b hlt).trans hv, hown.kept (row := none) ⟨hb.os, hb.tape, hb.output, hb.size, fun k hk _ => hb.block k hk⟩ (Classical.em _), hne⟩
 exact h.elim (fun x => .inl (at' x)) (fun x => .inr (at' x))
theorem copyCheck_keep (B b : Nat) (bs : List Value) (w : World) (h : Lib.IsBuilderF 68 5 B b bs w) :
  Calls Tryz.prog 59 #[.pointer (some ⟨b, 0, none⟩)] w fun e w' => e = .returned (.tuple #[]) ∧ (Lib.BuilderAtF 68 5 B b (.pointer (some ⟨b, 0, none⟩)) bs w' ∧ Below B w w') ∧ OthT w w' := by
 rcases h with h | h
 ·refine (copyCheck_fresh b w h.cell0 h.shape h.frozen0).mono ?_
  rintro e w' ⟨rfl, rfl⟩
  refine ⟨rfl, ⟨h.used _, (Below.refl B w).setCell (p := ⟨b, 0, none⟩) h.1 _⟩, fun k cs t fr hk h1 _ => ?_⟩
  obtain ⟨_, v, hv, _⟩ := h
  exact (setCell_off (by rintro rfl; rw [hv] at hk; cases hk; exact h1 rfl)).trans hk
 ·refine (copyCheck_used b w h.cell0).mono ?_
  rintro e w' ⟨rfl, rfl⟩
  exact ⟨rfl, ⟨h, Below.refl B _⟩, fun _ _ _ _ hk _ _ => hk⟩

set_option maxRecDepth 100000 in
set_option maxHeartbeats 2000000 in
theorem WriteByte_keep (B b : Nat) (bs : List Value) (c : Int) (w : World) (h : Lib.IsBuilderF 68 5 B b bs w) (hlen : bs.length + 1 ≤ 140737488355328) (hBw : B ≤ w.heap.size) :
  Calls Tryz.prog 34 #[.pointer (some ⟨b, 0, none⟩), .int .u8 c] w fun e w' => e = .returned .nilIface ∧ (Lib.BuilderAtF 68 5 B b (.pointer (some ⟨b, 0, none⟩)) (bs ++ [.int .u8 c]) w' ∧ Below B w w') ∧ OthT w w' := by
 obtain ⟨i0, hi, hz0, hz1, hz2⟩ := info_parts Tryz.Builder_Extra_169.infoByte
 have hcc := copyCheck_keep B b bs w h
 go_enter Tryz.func34, Tryz.ntmps34
 go_wp2_with (fail)
 refine hcc.mono ?_
 rintro e w1 ⟨rfl, ⟨h1, hb1⟩, ho1⟩
 obtain ⟨hB, v, hbk, hown, hne⟩ := h1
 have c0 : w1.cell? ⟨b, 0, none⟩ = some (.pointer (some ⟨b, 0, none⟩)) := by rw [Lib.cell_of_heap hbk]; rfl
 have c1 : w1.cell? ⟨b, 1, none⟩ = some v := by rw [Lib.cell_of_heap hbk]; rfl
 go_wp2_with (at_builtin; refine wpList_append_ownF _ rfl _ _ 66 rfl B 5 i0 (.int .u8 0) 1 1 Tryz.underlying66 hi hz0 hz1 hz2 rfl (by decide) _ _ _ rfl (hown.alloc _) ⟨w1.heap.size, 0, none⟩ 1 1 [.int .u8 c] rfl rfl ?c1 ?c2 ?c3 ?c4 ?c5 ?_)
 case c1 =>
  intro j u hj
  match j, hj with
  | 0, hj => simp at hj; subst hj; simp [Addr.add]
 case c2 => intro u hu; simp at hu; subst hu; rfl
 case c3 => unfold maxLen; omega
 case c4 => omega
 case c5 => have := hb1.size; simp; omega
 intro v' w2 hown' hgrow _
 have hlt : b < w1.heap.size := by
  rcases Nat.lt_or_ge b w1.heap.size with h' | h'
  ·exact h'
  ·simp [Array.getElem?_eq_none h'] at hbk
 have hb2 : w2.heap[b]? = some (.cells #[.pointer (some ⟨b, 0, none⟩), v] 68 (0, 0)) := by
  rw [hgrow.block b (by simp; omega) (fun e => hne e.symm), Lib.alloc_old w1 _ b hlt]
  exact hbk
 have d0 : w2.cell? ⟨b, 0, none⟩ = some (.pointer (some ⟨b, 0, none⟩)) := by rw [Lib.cell_of_heap hb2]; rfl
 have d1 : w2.cell? ⟨b, 1, none⟩ = some v := by rw [Lib.cell_of_heap hb2]; rfl
 have f1 : w2.frozen? ⟨b, 1, none⟩ = false := Lib.frozen_of_heap hb2 1
 obtain ⟨ao, n', cap, rfl⟩ : ∃ ao n' cap, v' = .slice ao n' cap := by
  rcases hown'.2 with ⟨hv, _⟩ | ⟨g, cap, cur, fz, hv, _⟩
  ·exact ⟨_, _, _, hv⟩
  ·exact ⟨_, _, _, hv⟩
 go_wp2
 go_ret
 refine ⟨rfl, ⟨?_, ?_⟩, ?_⟩
 ·exact Lib.BuilderAtF.put (T := 68) (e := 5) hB hb2 (bs' := bs ++ [.int .u8 c]) (by simpa using hown') Tryz.Builder_Extra_169.neB5
 ·exact ((hb1.alloc (by have := hb1.size; omega) _).grown hgrow (by have := hb1.size; simp; omega) (fun k hk => (hown.lt k hk).1)).setCell (p := ⟨b, 1, none⟩) hB _
 ·intro k cs t fr hk h1 h2
  have k1 := ho1 k cs t fr hk h1 h2
  have kb : k ≠ b := by rintro rfl; rw [hbk] at k1; cases k1; exact h1 rfl
  have kl : k < w1.heap.size := (Array.getElem?_eq_some_iff.1 k1).1
  refine (setCell_off kb).trans ((hgrow.block k (by simp; omega) (fun e => ?_)).trans ((Lib.alloc_old w1 _ k kl).trans k1))
  rcases hown.2 with ⟨hv, _⟩ | ⟨g, cap, cur, fz, hv, hg, hh, _⟩
  ·rw [hv] at e; simp [Value.ownBlock] at e
  ·subst hv
   simp [Value.ownBlock] at e
   subst e
   rw [k1] at hh; cases hh; exact h2 rfl
end Go.Proofs.YtempicociampoaaGreatDoor
namespace Go.Proofs.YtempicociampoaaGreatDoor
open Go.RowKit Go.Shelf
attribute [local go_sem] Oper.semAt_some

def naB : ByteArray := ⟨#[110, 97, 116, 105, 111, 110]⟩
theorem cuts_na : cuts naB = [2, 6] := by
 unfold cuts
 rw [show pointsL (numbersL naB.data.toList) = [2] from wk1]; rfl
theorem cuts_a : cuts ⟨#[97]⟩ = [1] := by
 unfold cuts
 rw [show pointsL (numbersL (⟨#[97]⟩ : ByteArray).data.toList) = [] by rw [show numbersL (⟨#[97]⟩ : ByteArray).data.toList = [] from wk6]; rfl]; rfl
theorem word_na (c : Int) : wordI c naB = [boxT ⟨#[110, 97]⟩, penT c, boxT ⟨#[116, 105, 111, 110]⟩] := by
 unfold wordI pcsL pcsTo pcIts pieceAt
 rw [cuts_na]
 unfold cutAt
 rw [cuts_na]
 rfl
theorem word_a (c : Int) : wordI c ⟨#[97]⟩ = [boxT ⟨#[97]⟩] := by
 unfold wordI pcsL pcsTo pcIts pieceAt
 rw [cuts_a]
 unfold cutAt
 rw [cuts_a]
 rfl
theorem sl_texts (w : World) (l : List ByteArray) (hl : l.length ≤ maxLen) : Sl (w.alloc (.cells (l.flatMap encS).toArray 9)) 1 encS (.slice (some ⟨w.heap.size, 0, none⟩) l.length l.length) l := by
 refine sl_of_block (World.alloc_heap_new w _) ?_ (fun _ _ => rfl) (Nat.le_refl _) hl
 have : ∀ l : List ByteArray, (l.flatMap encS).length = l.length := by
  intro l
  induction l with
  | nil => rfl
  | cons x l ih => rw [List.flatMap_cons, List.length_append, ih]; simp [encS]; omega
 simp only [Nat.mul_one]
 rw [← this l, List.take_length]

end Go.Proofs.YtempicociampoaaGreatDoor
namespace Go.Proofs.YtempicociampoaaGreatDoor
open Go.RowKit

theorem ba_ext {a b : ByteArray} (h : a.data.toList = b.data.toList) : a = b := by
 obtain ⟨⟨a⟩⟩ := a
 obtain ⟨⟨b⟩⟩ := b
 simp at h
 subst h
 rfl
theorem ba_app (a b : ByteArray) : (a ++ b).data.toList = a.data.toList ++ b.data.toList := by simp
theorem ba_extract (s : ByteArray) (i j : Nat) : (s.extract i j).data.toList = (s.data.toList.take j).drop i := by
 simp [ByteArray.data_extract, List.take_drop]
 by_cases h : i ≤ j
 ·rw [List.drop_take, show i + (j - i) - i = j - i by omega, List.drop_take]
 ·rw [List.drop_eq_nil_of_le (by simp; omega), List.drop_eq_nil_of_le (by simp; omega)]

/-- pens stand between boxes -/
def PenOk (l : List It) : Prop := ∀ (i : Nat) (x : It), l[i]? = some x → x.kind = 3 → 0 < i ∧ (∃ y, l[i - 1]? = some y ∧ y.kind = 1) ∧ ∃ y, l[i + 1]? = some y ∧ y.kind = 1
theorem PenOk.append {a b : List It} (ha : PenOk a) (hb : PenOk b) : PenOk (a ++ b) := by
 intro i x hi hk
 by_cases h : i < a.length
 ·rw [List.getElem?_append_left h] at hi
  obtain ⟨h0, ⟨y, h1, h2⟩, z, h3, h4⟩ := ha i x hi hk
  refine ⟨h0, ⟨y, ?_, h2⟩, z, ?_, h4⟩
  ·rw [List.getElem?_append_left (by omega)]; exact h1
  ·rw [List.getElem?_append_left (List.getElem?_eq_some_iff.1 h3).1]; exact h3
 ·rw [List.getElem?_append_right (by omega)] at hi
  obtain ⟨h0, ⟨y, h1, h2⟩, z, h3, h4⟩ := hb _ x hi hk
  refine ⟨by omega, ⟨y, ?_, h2⟩, z, ?_, h4⟩
  ·rw [List.getElem?_append_right (by omega), show i - 1 - a.length = i - a.length - 1 by omega]; exact h1
  ·rw [List.getElem?_append_right (by omega), show i + 1 - a.length = i - a.length + 1 by omega]; exact h3
theorem PenOk.none {l : List It} (h : ∀ x ∈ l, x.kind ≠ 3) : PenOk l := fun _ x hi hk => absurd hk (h x (List.mem_of_getElem? hi))

theorem pcs_text (c : Int) (s : ByteArray) : ∀ k, k ≤ (cuts s).length → textB (pcIts c (pcsTo s k)) = s.data.toList.take (cutAt s k).toNat := by
 intro k
 induction k with
 | zero => intro _; simp [pcsTo, pcIts, textB, cutAt]
 | succ k ih =>
  intro hk
  have h1 := cutAt_mono s (k := k) (by omega)
  have h2 := cutAt_bd s k
  rw [pcsTo_succ, pcIts_snoc, textB_append, textB_append, ih (by omega)]
  have e1 : textB (if 0 < ((k, pieceAt s k) : Nat × ByteArray).1 then [penT c] else []) = [] := by
   split <;> simp [textB, textOf, penT]
  have e2 : textB [boxT (pieceAt s k)] = (s.data.toList.take (cutAt s (k + 1)).toNat).drop (cutAt s k).toNat := by
   rw [show textB [boxT (pieceAt s k)] = (pieceAt s k).data.toList by simp [textB, textOf, boxT]]
   unfold pieceAt
   rw [ba_extract]
  show _ ++ textB _ ++ textB [boxT (pieceAt s k)] = _
  rw [e1, e2, List.append_nil]
  have : s.data.toList.take (cutAt s k).toNat = (s.data.toList.take (cutAt s (k + 1)).toNat).take (cutAt s k).toNat := by
   rw [List.take_take, Nat.min_eq_left (by omega)]
  rw [this, List.take_append_drop]
theorem word_text (c : Int) (s : ByteArray) : textB (wordI c s) = s.data.toList := by
 unfold wordI pcsL
 rw [pcs_text c s _ (Nat.le_refl _), cutAt_end, Int.toNat_natCast, List.take_of_length_le (by rw [size_toList]; omega)]

/-- what each item of a part's is, but for the indent -/
def goodIt (kind c : Int) (x : It) : Prop :=
 (x.kind = 1 ∧ x.w = tm x.text ∧ x.y = 0 ∧ x.z = 0 ∧ x.cost = 0) ∨ (x.kind = 2 ∧ x.w = 4 ∧ x.text = eb0 ∧ x.cost = 0 ∧ ((x.y = 2 ∧ x.z = 1) ∨ x.y = 0)) ∨ (x.kind = 3 ∧ kind ≠ 2 ∧ x.w = 4 ∧ x.cost = c)
/-- the spaces of items -/
def spc (l : List It) : Nat := (l.map fun x => if x.kind = 2 ∧ 0 < x.y then 1 else 0).sum
theorem spc_append (a b : List It) : spc (a ++ b) = spc a + spc b := by simp [spc]
theorem good_box (kind c : Int) (s : ByteArray) : goodIt kind c (boxT s) := .inl ⟨rfl, rfl, rfl, rfl, rfl⟩
theorem pcs_good (kind c : Int) (hk : kind ≠ 2) (l : List (Nat × ByteArray)) : (∀ x ∈ pcIts c l, goodIt kind c x) ∧ spc (pcIts c l) = 0 := by
 induction l with
 | nil => exact ⟨fun x hx => by simp [pcIts] at hx, rfl⟩
 | cons y l ih =>
  have e : pcIts c (y :: l) = ((if 0 < y.1 then [penT c] else []) ++ [boxT y.2]) ++ pcIts c l := rfl
  rw [e, spc_append, spc_append, ih.2]
  refine ⟨fun x hx => ?_, ?_⟩
  ·rcases List.mem_append.1 hx with h | h
   ·rcases List.mem_append.1 h with h | h
    ·split at h
     ·rw [List.mem_singleton.1 h]; exact .inr (.inr ⟨rfl, hk, rfl, rfl⟩)
     ·cases h
    ·rw [List.mem_singleton.1 h]; exact good_box _ _ _
   ·exact ih.1 x h
  ·split <;> simp [spc, penT, boxT]

theorem items_good (kind ind c : Int) (ws : List ByteArray) : ∀ k i x, (itemsTo kind ind c ws k)[i]? = some x → goodIt kind c x ∨ (i = 0 ∧ x = ⟨1, ind, 0, 0, 0, eb0⟩) := by
 intro k
 induction k with
 | zero =>
  intro i x hx
  unfold itemsTo beginI at hx
  split at hx
  ·cases i with
   | zero => simp at hx; exact .inr ⟨rfl, hx.symm⟩
   | succ i => simp at hx
  ·split at hx
   ·left
    have := List.mem_of_getElem? hx
    simp at this
    rcases this with rfl | rfl
    ·exact good_box _ _ _
    ·exact .inr (.inl ⟨rfl, rfl, rfl, rfl, .inr rfl⟩)
   ·simp at hx
 | succ k ih =>
  intro i x hx
  rw [itemsTo, List.append_assoc] at hx
  by_cases h : i < (itemsTo kind ind c ws k).length
  ·rw [List.getElem?_append_left h] at hx; exact ih i x hx
  ·rw [List.getElem?_append_right (by omega)] at hx
   left
   rcases List.mem_append.1 (List.mem_of_getElem? hx) with h | h
   ·split at h
    ·rw [List.mem_singleton.1 h]; exact .inr (.inl ⟨rfl, rfl, rfl, rfl, .inl ⟨rfl, rfl⟩⟩)
    ·cases h
   ·split at h
    ·rw [List.mem_singleton.1 h]; exact good_box _ _ _
    ·rename_i hk; exact (pcs_good kind c hk _).1 x h

/-- the text that a part's items have -/
def wantS (kind : Int) (ws : List ByteArray) : Nat → ByteArray
 | 0 => if kind = 3 then ⟨#[42, 32]⟩ else eb0
 | k + 1 => (if 0 < k then wantS kind ws k ++ ⟨#[32]⟩ else wantS kind ws k) ++ ws.getD k eb0
theorem items_text (kind ind c : Int) (ws : List ByteArray) (_hk : 1 ≤ kind ∧ kind ≤ 3) : ∀ k, textB (itemsTo kind ind c ws k) = (wantS kind ws k).data.toList := by
 intro k
 induction k with
 | zero =>
  unfold itemsTo wantS beginI
  split
  ·rename_i h
   rw [if_neg (by omega)]
   simp [textB, textOf, eb0]
  ·split
   ·simp [textB, textOf, boxT, tieT]
   ·simp [textB, eb0]
 | succ k ih =>
  rw [itemsTo, textB_append, textB_append, ih, wantS, ba_app]
  have e2 : textB (if kind = 2 then [boxT (ws.getD k eb0)] else wordI c (ws.getD k eb0)) = (ws.getD k eb0).data.toList := by
   split
   ·simp [textB, textOf, boxT]
   ·exact word_text _ _
  rw [e2]
  split
  ·rw [ba_app]; simp [textB, textOf, spaceT]
  ·simp [textB]
end Go.Proofs.YtempicociampoaaGreatDoor
namespace Go.Proofs.YtempicociampoaaGreatDoor
open Go.RowKit

theorem items_two (c : Int) (a b : ByteArray) : itemsOf 1 0 c [a, b] = wordI c a ++ [spaceT] ++ wordI c b := by
 unfold itemsOf
 rw [if_neg (by decide)]
 simp [itemsTo, beginI]
end Go.Proofs.YtempicociampoaaGreatDoor
namespace Go.Proofs.YtempicociampoaaGreatDoor
open Go.RowKit

section
variable {tw : ByteArray → Int}
theorem two_lt {l : List It} {x y : It} {i : Nat} (h : i < l.length) : (l ++ [x, y])[i]? = l[i]? := List.getElem?_append_left h
theorem two_at (l : List It) (x y : It) : (l ++ [x, y])[l.length]? = some x := by rw [List.getElem?_append_right (Nat.le_refl _), Nat.sub_self]; rfl
theorem two_at1 (l : List It) (x y : It) : (l ++ [x, y])[l.length + 1]? = some y := by rw [List.getElem?_append_right (by omega), show l.length + 1 - l.length = 1 by omega]; rfl
theorem two_ge {l : List It} {x y : It} {i : Nat} (h : l.length + 2 ≤ i) : (l ++ [x, y])[i]? = none := List.getElem?_eq_none (by simp; omega)
/-- a glue or a Pen more, and a Box of text -/
theorem Wl.snoc2 {l : List It} {x y : It} (hl : Wl tw l) (hx : glW x ∨ peX x) (hy : tb tw y) (hp : x.kind = 3 → y.text.data.toList ≠ [45]) : Wl tw (l ++ [x, y]) := by
 have hk : x.kind ≠ 1 := by rcases hx with h | h <;> (have := h.1; omega)
 obtain ⟨h0, hh0, hh1⟩ := hl.head
 have hn : 0 < l.length := (List.getElem?_eq_some_iff.1 hh0).1
 have split : ∀ i z, (l ++ [x, y])[i]? = some z → (i < l.length ∧ l[i]? = some z) ∨ (i = l.length ∧ z = x) ∨ (i = l.length + 1 ∧ z = y) := fun i z h => by
  by_cases h1 : i < l.length
  ·rw [two_lt h1] at h; exact .inl ⟨h1, h⟩
  ·by_cases h2 : i = l.length
   ·subst h2; rw [two_at] at h; exact .inr (.inl ⟨rfl, (Option.some.inj h).symm⟩)
   ·by_cases h3 : i = l.length + 1
    ·subst h3; rw [two_at1] at h; exact .inr (.inr ⟨rfl, (Option.some.inj h).symm⟩)
    ·rw [two_ge (by omega)] at h; cases h
 refine ⟨fun z hz => ?_, ⟨h0, by rw [two_lt hn]; exact hh0, hh1⟩, fun i z hz he => ?_, fun i z hz hzk => ?_, ⟨y, ?_, hy⟩, fun i a b ha hb hat => ?_⟩
 ·rcases List.mem_append.1 hz with h | h
  ·exact hl.good z h
  ·rcases List.mem_cons.1 h with rfl | h
   ·rcases hx with h | h
    ·exact .inr (.inr (.inl h))
    ·exact .inr (.inr (.inr h))
   ·obtain rfl := List.mem_singleton.1 h; exact .inl hy
 ·rcases split i z hz with ⟨h1, h2⟩ | ⟨-, rfl⟩ | ⟨-, rfl⟩
  ·exact hl.emp i z h2 he
  ·exact absurd he.1 hk
  ·exact absurd he.2.1 hy.2.1
 ·rcases split i z hz with ⟨h1, h2⟩ | ⟨rfl, rfl⟩ | ⟨-, rfl⟩
  ·obtain ⟨n1, ⟨a, ha, hab⟩, b, hb, hbb, hb3⟩ := hl.near i z h2 hzk
   have hb1 := (List.getElem?_eq_some_iff.1 hb).1
   exact ⟨n1, ⟨a, by rw [two_lt (by omega)]; exact ha, hab⟩, b, by rw [two_lt hb1]; exact hb, hbb, hb3⟩
  ·obtain ⟨a, ha, hab⟩ := hl.last
   exact ⟨hn, ⟨a, by rw [two_lt (by omega)]; exact ha, hab⟩, y, two_at1 l z y, hy, hp⟩
  ·exact absurd hy.1 hzk
 ·rw [List.length_append]
  exact two_at1 l x y
 ·rcases split i a ha with ⟨h1, h2⟩ | ⟨-, rfl⟩ | ⟨h1, -⟩
  ·rcases split (i + 1) b hb with ⟨h3, h4⟩ | ⟨-, rfl⟩ | ⟨h3, -⟩
   ·exact hl.alt i a b h2 h4 hat
   ·exact hk
   ·omega
  ·exact absurd hat.1 hk
  ·rw [two_ge (by omega)] at hb; cases hb
/-- a beginning, behind which a Box of text may stand -/
def Opn (tw : ByteArray → Int) (l : List It) : Prop := ∀ y, tb tw y → Wl tw (l ++ [y])
theorem opn_nil : Opn tw [] := fun y hy => by
 refine ⟨fun z hz => ?_, ⟨y, rfl, hy.1⟩, fun i z hz he => ?_, fun i z hz hk => ?_, ⟨y, rfl, hy⟩, fun i a b ha hb _ => ?_⟩
 ·obtain rfl : z = y := by simpa using hz
  exact .inl hy
 ·match i, hz with
  | 0, _ => rfl
  | i + 1, hz => simp at hz
 ·match i, hz with
  | 0, hz => cases hz; exact absurd hy.1 hk
  | i + 1, hz => simp at hz
 ·simp at hb
theorem opn_em {e : It} (he : emB e) : Opn tw [e] := fun y hy => by
 refine ⟨fun z hz => ?_, ⟨e, rfl, he.1⟩, fun i z hz hze => ?_, fun i z hz hk => ?_, ⟨y, rfl, hy⟩, fun i a b ha hb hat => ?_⟩
 ·rcases List.mem_cons.1 hz with rfl | h
  ·exact .inr (.inl he)
  ·obtain rfl : z = y := by simpa using h
   exact .inl hy
 ·match i, hz with
  | 0, _ => rfl
  | 1, hz => cases hz; exact absurd hze.2.1 hy.2.1
  | i + 2, hz => simp at hz
 ·match i, hz with
  | 0, hz => cases hz; exact absurd he.1 hk
  | 1, hz => cases hz; exact absurd hy.1 hk
  | i + 2, hz => simp at hz
 ·match i, ha, hb with
  | 0, ha, _ => cases ha; exact absurd he.2.1 hat.2.1
  | i + 1, _, hb => simp at hb
theorem Wl.opn {l : List It} (hl : Wl tw l) {x : It} (hx : glW x) : Opn tw (l ++ [x]) := fun y hy => by
 have := hl.snoc2 (.inl hx) hy (fun h => by have := hx.1; omega)
 rwa [show l ++ [x, y] = l ++ [x] ++ [y] by simp] at this
end
/-- words that count: of some text, not too long -/
def okW (s : ByteArray) : Prop := s.size ≠ 0 ∧ s.size ≤ 1000
theorem box_tb {s : ByteArray} (h : okW s) : tb tm (boxT s) := by
 have := tm_bd s
 exact ⟨rfl, h.1, rfl, ⟨this.1, by have h2 := h.2; show tm s ≤ 10000; omega⟩, rfl, rfl⟩
theorem cutAt_lt {s : ByteArray} (hs : s.size ≠ 0) {k : Nat} (h : k < (cuts s).length) : cutAt s k < cutAt s (k + 1) := by
 have hp := points_ok s.data.toList
 have hst : (cuts s).Pairwise (· < ·) := by
  unfold cuts
  refine List.pairwise_append.2 ⟨hp.2.1, List.pairwise_singleton _ _, fun a ha b hb => ?_⟩
  obtain rfl : b = (s.size : Int) := by simpa using hb
  have := hp.1 a ha
  rw [size_toList] at this; omega
 cases k with
 | zero =>
  show 0 < (cuts s).getD 0 0
  rw [List.getD_eq_getElem?_getD, List.getElem?_eq_getElem h]
  have hm : (cuts s)[0] ∈ cuts s := List.getElem_mem _
  show 0 < (cuts s)[0]
  rcases List.mem_append.1 hm with h9 | h9
  ·exact (hp.1 _ h9).1
  ·have : (cuts s)[0] = (s.size : Int) := by simpa using h9
   omega
 | succ k =>
  show (cuts s).getD k 0 < (cuts s).getD (k + 1) 0
  rw [List.getD_eq_getElem?_getD, List.getD_eq_getElem?_getD, List.getElem?_eq_getElem h, List.getElem?_eq_getElem (by omega)]
  exact List.pairwise_iff_getElem.1 hst k (k + 1) (by omega) h (by omega)
theorem piece_ok {s : ByteArray} (hs : okW s) {k : Nat} (h : k < (cuts s).length) : okW (pieceAt s k) := by
 have h1 := cutAt_lt hs.1 h
 have h2 := cutAt_bd s k
 have h3 := cutAt_bd s (k + 1)
 have e : (pieceAt s k).size = (cutAt s (k + 1)).toNat - (cutAt s k).toNat := by
  rw [← size_toList]
  unfold pieceAt
  rw [ba_extract, List.length_drop, List.length_take, size_toList]
  omega
 have := hs.2
 exact ⟨by rw [e]; omega, by rw [e]; omega⟩
theorem piece_dash {s : ByteArray} {k : Nat} (h0 : 0 < k) (h : k < (cuts s).length) : (pieceAt s k).data.toList ≠ [45] := by
 have hn : numbersL s.data.toList ≠ [] := fun h9 => by
  unfold cuts at h
  rw [h9] at h
  simp [pointsL] at h
  omega
 have hlet : ∀ c ∈ s.data.toList, isLet c = true := by
  unfold numbersL at hn
  cases hs : smallL s.data.toList with
  | none => rw [hs] at hn; exact absurd rfl hn
  | some lw =>
   unfold smallL at hs
   split at hs
   ·rename_i hc; exact List.all_eq_true.1 hc.1
   ·cases hs
 intro h9
 have hm : (45 : UInt8) ∈ (pieceAt s k).data.toList := by rw [h9]; simp
 unfold pieceAt at hm
 rw [ba_extract] at hm
 have := hlet 45 (List.mem_of_mem_take (List.mem_of_mem_drop hm))
 exact absurd this (by decide)
/-- a word more, behind a beginning -/
theorem Opn.word {l : List It} (hl : Opn tm l) (c : Int) {s : ByteArray} (hs : okW s) : Wl tm (l ++ wordI c s) := by
 have key : ∀ k, k < (cuts s).length → Wl tm (l ++ pcIts c (pcsTo s (k + 1))) := by
  intro k
  induction k with
  | zero =>
   intro h
   have e : pcIts c (pcsTo s (0 + 1)) = [boxT (pieceAt s 0)] := by rw [pcsTo_succ]; rfl
   rw [e]
   exact hl _ (box_tb (piece_ok hs h))
  | succ k ih =>
   intro h
   have e : pcIts c (pcsTo s (k + 1 + 1)) = pcIts c (pcsTo s (k + 1)) ++ [penT c, boxT (pieceAt s (k + 1))] := by
    rw [pcsTo_succ, pcIts_snoc]
    simp
   rw [e, ← List.append_assoc]
   exact (ih (by omega)).snoc2 (.inr ⟨rfl, rfl, rfl⟩) (box_tb (piece_ok hs h)) (fun _ => piece_dash (by omega) h)
 have h1 := cuts_len s
 obtain ⟨n, hn⟩ : ∃ n, (cuts s).length = n + 1 := ⟨(cuts s).length - 1, by omega⟩
 have := key n (by omega)
 unfold wordI pcsL
 rwa [hn]
theorem begin_opn (kind ind : Int) : Opn tm (beginI kind ind) := by
 unfold beginI
 split
 ·exact opn_em ⟨rfl, rfl, rfl, rfl⟩
 ·split
  ·have h1 : Wl tm ([] ++ [boxT ⟨#[42]⟩]) := opn_nil _ (box_tb ⟨by decide, by decide⟩)
   have h2 := h1.opn (x := tieT) ⟨rfl, rfl, .inr ⟨rfl, rfl⟩⟩
   exact h2
  ·exact opn_nil
/-- A PART'S ITEMS ARE IN ORDER -/
theorem items_wl (kind ind c : Int) (ws : List ByteArray) (hw : ∀ s ∈ ws, okW s) : ∀ k, k < ws.length → Wl tm (itemsTo kind ind c ws (k + 1)) := by
 have one : ∀ (l : List It) (k : Nat), k < ws.length → Opn tm l → Wl tm (l ++ (if kind = 2 then [boxT (ws.getD k eb0)] else wordI c (ws.getD k eb0))) := fun l k hk hl => by
  have hs : okW (ws.getD k eb0) := by
   rw [List.getD_eq_getElem?_getD, List.getElem?_eq_getElem hk]
   exact hw _ (List.getElem_mem _)
  split
  ·exact hl _ (box_tb hs)
  ·exact hl.word c hs
 intro k
 induction k with
 | zero =>
  intro hk
  rw [itemsTo]
  have := one (beginI kind ind) 0 hk (begin_opn kind ind)
  simpa [itemsTo] using this
 | succ k ih =>
  intro hk
  have h1 := ih (by omega)
  rw [itemsTo, if_pos (by omega)]
  exact one _ _ hk (h1.opn ⟨rfl, rfl, .inl ⟨rfl, rfl⟩⟩)
theorem tx_text (l : List It) : txL l = textB l := rfl
theorem items_penw (kind ind c : Int) (ws : List ByteArray) (k : Nat) : ∀ x ∈ itemsTo kind ind c ws k, x.kind = 3 → x.w = 4 := fun x hx h3 => by
 obtain ⟨i, hi⟩ := List.getElem?_of_mem hx
 rcases items_good kind ind c ws k i x hi with h | ⟨-, rfl, -⟩
 ·rcases h with h | h | h
  ·have := h.1; omega
  ·have := h.1; omega
  ·exact h.2.2.1
 ·simp at h3
end Go.Proofs.YtempicociampoaaGreatDoor
namespace Go.Proofs.YtempicociampoaaGreatDoor
open Go.RowKit

def ascL (l : List UInt8) : List Int := l.map fun b => (b.toNat : Int)
theorem asc_txt : ∀ {l : List UInt8}, (∀ b ∈ l, b.toNat < 128) → txt (ascL l) = l ∧ ∀ x ∈ ascL l, okv x
 | [], _ => ⟨rfl, fun x hx => by cases hx⟩
 | b :: l, h => by
  have hb := h b (by simp)
  obtain ⟨i1, i2⟩ := asc_txt (l := l) (fun c hc => h c (by simp [hc]))
  refine ⟨?_, fun x hx => ?_⟩
  ·unfold ascL at i1 ⊢
   rw [List.map_cons, txt_cons, enc_ascii _ hb, i1]
   simp
  ·unfold ascL at hx i2
   rw [List.map_cons] at hx
   rcases List.mem_cons.1 hx with rfl | hx
   ·unfold okv; omega
   ·exact i2 x hx
theorem sgn_asc {l : List UInt8} (h : ∀ b ∈ l, b.toNat < 128) : sgn l = ascL l := sgn_of (asc_txt h).2 (asc_txt h).1.symm
/-- a word that has points is of letters -/
theorem points_let {s : List UInt8} (h : pointsL (numbersL s) ≠ []) : ∀ b ∈ s, b.toNat < 128 := by
 have hn : numbersL s ≠ [] := fun h9 => by rw [h9] at h; exact h rfl
 unfold numbersL at hn
 cases hs : smallL s with
 | none => rw [hs] at hn; exact absurd rfl hn
 | some lw =>
  unfold smallL at hs
  split at hs
  ·rename_i hc
   intro b hb
   have := List.all_eq_true.1 hc.1 b hb
   unfold isLet at this
   have h9 := of_decide_eq_true this
   unfold lowB at h9
   split at h9
   ·rename_i h8; omega
   ·omega
  ·cases hs
theorem ascL_part (l : List UInt8) (i j : Nat) : ((ascL l).take j).drop i = ascL ((l.take j).drop i) := by
 unfold ascL
 rw [List.map_drop, List.map_take]
end Go.Proofs.YtempicociampoaaGreatDoor
