/- The walk of layer 14's wakes. -/
import Derived.Test.YtjkfefjfmocekaaDoorItH
import Derived.Test.YtjkfefjfmocekaaDoorItM
import Derived.Test.YtjkfefjfmocekaaDoorItN
import Derived.Test.YtjkfefjfmocekaaDoorHypQ
namespace Go.Proofs.YtjkfefjfmocekaaDoor
open Go.RowKit Go.Shelf
attribute [local go_sem] Oper.semAt_some

def naB : ByteArray := ⟨#[110, 97, 116, 105, 111, 110]⟩
theorem cuts_na : cuts naB = [2, 6] := by
  unfold cuts
  rw [show pointsL (numbersL naB.data.toList) = [2] from wk1]; rfl
theorem cuts_a : cuts ⟨#[97]⟩ = [1] := by
  unfold cuts
  rw [show pointsL (numbersL (⟨#[97]⟩ : ByteArray).data.toList) = [] by rw [show numbersL (⟨#[97]⟩ : ByteArray).data.toList = [] from wk6]; rfl]; rfl
theorem word_na (c : Int) : wordI c naB = [boxT ⟨#[110, 97]⟩, penT c, boxT ⟨#[116, 105, 111, 110]⟩] := by
  unfold wordI pcsL pcsTo pcIts pieceAt
  rw [cuts_na]
  unfold cutAt
  rw [cuts_na]
  rfl
theorem word_a (c : Int) : wordI c ⟨#[97]⟩ = [boxT ⟨#[97]⟩] := by
  unfold wordI pcsL pcsTo pcIts pieceAt
  rw [cuts_a]
  unfold cutAt
  rw [cuts_a]
  rfl
theorem its1 : itemsOf 1 9 50 [naB, ⟨#[97]⟩] = [⟨1, 9, 0, 0, 0, eb0⟩, boxT ⟨#[110, 97]⟩, penT 50, boxT ⟨#[116, 105, 111, 110]⟩, spaceT, boxT ⟨#[97]⟩] := by
  unfold itemsOf
  rw [if_neg (by decide)]
  simp only [List.length_cons, List.length_nil, itemsTo]
  rw [show ([naB, ⟨#[97]⟩] : List ByteArray).getD 0 eb0 = naB from rfl, show ([naB, ⟨#[97]⟩] : List ByteArray).getD 1 eb0 = ⟨#[97]⟩ from rfl, word_na, word_a]
  simp [beginI]
theorem its2 : itemsOf 3 0 0 [⟨#[97]⟩] = [boxT ⟨#[42]⟩, tieT, boxT ⟨#[97]⟩] := by
  unfold itemsOf
  rw [if_neg (by decide)]
  simp only [List.length_cons, List.length_nil, itemsTo]
  rw [show ([⟨#[97]⟩] : List ByteArray).getD 0 eb0 = ⟨#[97]⟩ from rfl, word_a]
  simp [beginI]
theorem txt1 : textB [⟨1, 9, 0, 0, 0, eb0⟩, boxT ⟨#[110, 97]⟩, penT 50, boxT ⟨#[116, 105, 111, 110]⟩, spaceT, boxT ⟨#[97]⟩] = [110, 97, 116, 105, 111, 110, 32, 97] := by
  simp [textB, textOf, boxT, penT, spaceT, eb0]

theorem sl_texts (w : World) (l : List ByteArray) (hl : l.length ≤ maxLen) : Sl (w.alloc (.cells (l.flatMap encS).toArray 9)) 1 encS (.slice (some ⟨w.heap.size, 0, none⟩) l.length l.length) l := by
  refine sl_of_block (World.alloc_heap_new w _) ?_ (fun _ _ => rfl) (Nat.le_refl _) hl
  have : ∀ l : List ByteArray, (l.flatMap encS).length = l.length := by
    intro l
    induction l with
    | nil => rfl
    | cons x l ih => rw [List.flatMap_cons, List.length_append, ih]; simp [encS]; omega
  simp only [Nat.mul_one]
  rw [← this l, List.take_length]

set_option maxRecDepth 100000 in
set_option maxHeartbeats 4000000 in
theorem wakes14 (w : World) (hT : Tabs w) (hR : Asp w) : Calls Tryd.prog 6 #[] w fun e w' => e = .returned (.bool true) ∧ Below w.heap.size w w' := by
  have hB1 := (Below.refl w.heap.size w).alloc (Nat.le_refl _) (.cells #[.string ⟨#[110, 97, 116, 105, 111, 110]⟩, .string ⟨#[97]⟩] 9)
  have c1 := Of_any 1 _ [naB, ⟨#[97]⟩] 0 0 0 50 9 _ (by decide) (by decide) (sl_texts w [naB, ⟨#[97]⟩] (by decide)) (hT.below hB1) (hR.below hB1)
  rw [its1] at c1
  replace c1 := hid c1
  go_enter Tryd.func6, Tryd.ntmps6
  go_wp2_with (fail)
  refine c1.out.mono ?_
  rintro e w2 ⟨v, rfl, o1, b2⟩
  have B2 := hB1.trans (b2.mono (by simp))
  have z2 := B2.size
  have B3 := B2.alloc z2 (.cells #[.string ⟨#[97]⟩] 9)
  have c2 := Of_any 3 _ [⟨#[97]⟩] 0 0 0 0 0 _ (by decide) (by decide) (sl_texts w2 [⟨#[97]⟩] (by decide)) (hT.below B3) (hR.below B3)
  rw [its2] at c2
  replace c2 := hid c2
  go_wp2_with (fail)
  refine c2.out.mono ?_
  rintro e w4 ⟨v4, rfl, o4, b4⟩
  have B4 := B3.trans (b4.mono B3.size)
  have s1 := sl_of_owns (enc := encIt) (fun _ _ => rfl) ((Kept.of_below b4 0).owns (o1.alloc (.cells #[.string ⟨#[97]⟩] 9)))
  have s4 := sl_of_owns (enc := encIt) (fun _ _ => rfl) o4
  have cT := hid (fun v' (h : Sl w4 6 encIt v' _) => IText_any v' [⟨1, 9, 0, 0, 0, eb0⟩, boxT ⟨#[110, 97]⟩, penT 50, boxT ⟨#[116, 105, 111, 110]⟩, spaceT, boxT ⟨#[97]⟩] w4 h (by rw [txt1]; decide))
  rw [txt1] at cT
  obtain ⟨p1, q1, rfl, -⟩ := s1.shape
  obtain ⟨p4, q4, rfl, -⟩ := s4.shape
  have cT1 := hid (cT.out _ s1)
  obtain ⟨nb, no, cap, e1, f2, f3, e4⟩ := s1.open (by simp)
  obtain ⟨mb, mo, cap4, g1, g2, g3, g4⟩ := s4.open (by simp)
  simp only [Value.slice.injEq] at e1 g1
  obtain ⟨rfl, -, rfl⟩ := e1
  obtain ⟨rfl, -, rfl⟩ := g1
  obtain ⟨x0, x1, x2, x3, x4, x5⟩ := it_cells (e4 0 _ rfl)
  obtain ⟨y0, y1, y2, y3, y4, y5⟩ := it_cells (e4 1 _ rfl)
  obtain ⟨a0, a1, a2, a3, a4, a5⟩ := it_cells (e4 2 _ rfl)
  obtain ⟨d0, d1, d2, d3, d4, d5⟩ := it_cells (e4 3 _ rfl)
  obtain ⟨h0, h1, h2, h3, h4, h5⟩ := it_cells (e4 4 _ rfl)
  obtain ⟨k0, k1, k2, k3, k4, k5⟩ := it_cells (g4 0 _ rfl)
  obtain ⟨l0, l1, l2, l3, l4, l5⟩ := it_cells (g4 1 _ rfl)
  simp only [boxT, penT, spaceT, tieT, eb0, Nat.zero_mul, Nat.one_mul, Nat.add_zero, Nat.reduceMul] at x0 x1 x5 y0 y5 a0 a1 a4 d0 d5 h0 h1 h2 h3 h4 h5 k0 k5 l0 l1 l2 l3 l4 l5
  clear e4 g4 x2 x3 x4 y1 y2 y3 y4 a2 a3 a5 d1 d2 d3 d4 k1 k2 k3 k4 cT s1 s4 o1 o4 c1 c2
  go_wp2_with (fail)
  refine cT1.out.mono ?_
  rintro e w5 ⟨rfl, b5⟩
  have hmb : mb < w4.heap.size := by
    cases h5 : w4.heap[mb]? with
    | none => simp [World.cell?, h5] at k5
    | some o => exact (Array.getElem?_eq_some_iff.1 h5).1
  have B5 := B4.trans (b5.mono B4.size)
  replace k5 := (b5.cell (p := ⟨mb, mo + 5, none⟩) hmb).trans k5
  replace l0 := (b5.cell (p := ⟨mb, mo + 6, none⟩) hmb).trans l0
  replace l1 := (b5.cell (p := ⟨mb, mo + 6 + 1, none⟩) hmb).trans l1
  replace l2 := (b5.cell (p := ⟨mb, mo + 6 + 2, none⟩) hmb).trans l2
  replace l3 := (b5.cell (p := ⟨mb, mo + 6 + 3, none⟩) hmb).trans l3
  replace l4 := (b5.cell (p := ⟨mb, mo + 6 + 4, none⟩) hmb).trans l4
  replace l5 := (b5.cell (p := ⟨mb, mo + 6 + 5, none⟩) hmb).trans l5
  have c3 := Of_any 4 (.slice none 0 0) [] 0 0 0 0 0 w5 (by decide) (by simp) (.inl ⟨rfl, rfl⟩) (hT.below B5) (hR.below B5)
  replace c3 := hid c3
  clear x0 x1 x5 y0 y5 a0 a1 a4 d0 d5 h0 h1 h2 h3 h4 h5
  go_wp2_with (fail)
  refine c3.out.mono ?_
  rintro e w6 ⟨v6, rfl, o6, b6⟩
  obtain ⟨p6, q6, rfl, -, -⟩ := owns_shape o6
  rw [show (itemsOf 4 0 0 []).length = 0 from rfl]
  go_wp2_with (fail)
  go_ret
  exact ⟨rfl, B5.trans (b6.mono B5.size)⟩
end Go.Proofs.YtjkfefjfmocekaaDoor
