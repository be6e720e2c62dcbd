/- The walk of layer 9's wakes. -/
import Derived.Test.YtncohgkpdfmdgaaDoorUtfA
import Derived.Test.YtncohgkpdfmdgaaDoorUtfH
import Derived.Test.YtncohgkpdfmdgaaDoorKeep
namespace Go.Proofs.YtncohgkpdfmdgaaDoor
open Go.RowKit Go.Shelf

theorem Tabs.below {w w' : World} (h : Tabs w) (hb : Below w.heap.size w w') : Tabs w' := Utf8Tabs_below h hb
theorem Tabs.drewN {w : World} (h : Tabs w) (n : Nat) : Tabs (w.drewN n) := h.below ((Below.refl _ w).drewN n)
theorem Tabs.alloc {w : World} (h : Tabs w) (o : Obj) : Tabs (w.alloc o) := h.below ((Below.refl _ w).alloc (Nat.le_refl _) o)

/-- a slice of numbers, written out -/
theorem sl_lit (w : World) (l : List Int) (hl : l.length ≤ maxLen) : Sl (w.alloc (.cells (l.flatMap encI).toArray 3)) 1 encI (.slice (some ⟨w.heap.size, 0, none⟩) l.length l.length) l := by
  refine sl_of_block (World.alloc_heap_new w _) ?_ (fun _ _ => rfl) (Nat.le_refl _) hl
  have : ∀ l : List Int, (l.flatMap encI).length = l.length * 1 := by
    intro l
    induction l with
    | nil => rfl
    | cons a l ih => rw [List.flatMap_cons, List.length_append, ih]; simp [encI]; omega
  simp only [← this l, List.take_length]

set_option maxRecDepth 100000 in
set_option maxHeartbeats 2000000 in
theorem wakes9 (w : World) (hT : Tabs w) :
    Calls Tryd.prog 17 #[] w fun e w' => e = .returned (.bool true) ∧ Below w.heap.size w w' := by
  have hS := Signs_yes ⟨#[97, 195, 169]⟩ w (by decide) hT [97, 233] (by decide) (by decide)
  go_enter Tryd.func17, Tryd.ntmps17
  go_wp2_with (fail)
  refine hS.mono ?_
  rintro e w1 ⟨v, rfl, hv, hB1⟩
  obtain ⟨p, cap, rfl, -⟩ := hv.shape
  have l1 := sl_lit w1 [97, 233, 8364, 128512] (by decide)
  have c1 := UText_any _ _ _ (by decide) l1 (by decide)
  clear hS l1
  go_wp2_with (fail)
  refine c1.mono ?_
  rintro e w2 ⟨rfl, hB2⟩
  clear c1
  have B2 : Below w1.heap.size w1 w2 := ((Below.refl _ w1).alloc (Nat.le_refl _) _).trans (hB2.mono (by simp))
  have l2 := sl_lit w2 [55296] (by decide)
  have c2 := UText_any _ _ _ (by decide) l2 (by decide)
  have q1 : textOut [97, 233, 8364, 128512] = #[.string ⟨#[97, 195, 169, 226, 130, 172, 240, 159, 152, 128]⟩, .int .i64 0] := (if_pos (by decide)).trans rfl
  rw [q1]
  clear q1 hB2 l2
  go_wp2_with (fail)
  refine c2.mono ?_
  rintro e w3 ⟨rfl, hB3⟩
  have B3 : Below w2.heap.size w2 w3 := ((Below.refl _ w2).alloc (Nat.le_refl _) _).trans (hB3.mono (by simp))
  have q2 : textOut [55296] = #[.string ⟨#[]⟩, .int .i64 11] := (if_neg (by decide)).trans rfl
  rw [q2]
  clear q2 hB3 c2
  have T3 := ((hT.below hB1).below B2).below B3
  have T4 := T3.alloc (.cells (([97, 233] : List Int).flatMap encI).toArray 3)
  have B123 := (hB1.trans (B2.mono hB1.size)).trans (B3.mono ((hB1.trans (B2.mono hB1.size)).size))
  have l3 := sl_lit w3 [97, 233] (by decide)
  have l4 := (Kept.alloc 0 w3 (.cells (([97, 233] : List Int).flatMap encI).toArray 3)).sl ((Kept.of_below B3 0).sl ((Kept.of_below B2 0).sl hv))
  have B4 := B123.alloc B123.size (.cells (([97, 233] : List Int).flatMap encI).toArray 3)
  have c3 := Ints_eq _ _ _ _ _ l4 l3 rfl
  clear l3 l4 hv B2 B3 B123 hB1 hT T3
  go_wp2_with (fail)
  refine c3.mono ?_
  rintro e w4 ⟨rfl, n, rfl⟩
  have T5 := T4.drewN n
  have B5 := B4.drewN n
  generalize (w3.alloc (.cells (([97, 233] : List Int).flatMap encI).toArray 3)).drewN n = w4 at *
  have v1 := Valid_any ⟨#[]⟩ w4 (by decide) T5
  rw [show Lib.validD (ByteArray.mk #[]).data.toList = true by decide] at v1
  clear c3 T4 B4
  go_wp2_with (fail)
  refine v1.mono ?_
  rintro e w5 ⟨rfl, b5⟩
  clear v1
  have T6 := T5.below b5
  have B6 := B5.trans (b5.mono B5.size)
  have v2 := Valid_any ⟨#[192, 128]⟩ w5 (by decide) T6
  rw [show Lib.validD (ByteArray.mk #[192, 128]).data.toList = false by decide] at v2
  go_wp2_with (fail)
  refine v2.mono ?_
  rintro e w6 ⟨rfl, b6⟩
  clear v2
  have T7 := T6.below b6
  have B7 := B6.trans (b6.mono B6.size)
  have v3 := Valid_any ⟨#[237, 160, 128]⟩ w6 (by decide) T7
  rw [show Lib.validD (ByteArray.mk #[237, 160, 128]).data.toList = false by decide] at v3
  go_wp2_with (fail)
  refine v3.mono ?_
  rintro e w7 ⟨rfl, b7⟩
  clear v3
  have B8 := B7.trans (b7.mono B7.size)
  go_wp2_with (fail)
  refine (Letter_any 90 w7 (by decide) (by decide)).mono ?_
  rintro e w' ⟨rfl, rfl⟩
  rw [show letter 90 = true by decide]
  go_wp2_with (fail)
  refine (Letter_any 95 _ (by decide) (by decide)).mono ?_
  rintro e w' ⟨rfl, rfl⟩
  rw [show letter 95 = false by decide]
  go_wp2_with (fail)
  refine (Lower_any 81 _ (by decide) (by decide)).mono ?_
  rintro e w' ⟨rfl, rfl⟩
  rw [show lower 81 = 113 by decide]
  go_wp2
  go_ret
  exact ⟨rfl, B8⟩
end Go.Proofs.YtncohgkpdfmdgaaDoor
