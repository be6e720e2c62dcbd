/- The walk of the law's wakes. -/
import Derived.Test.YtcjaeamfddhilaaDiffC
import Derived.Test.YtcjaeamfddhilaaDiffD
import Derived.Test.YtcjaeamfddhilaaKeepR
namespace Go.Proofs.Ytcjaeamfddhilaa
open Go.RowKit

def dg (n : Int) : List Int := n :: List.replicate 31 0

set_option maxRecDepth 100000 in
set_option maxHeartbeats 1000000 in
theorem wakes_any (w : World) :
    Calls Try.prog 6 #[] w fun e w' => e = .returned (.bool true) ∧ Below w.heap.size w w' := by
  go_enter Try.func6, Try.ntmps6
  go_wp2_with (fail)
  have s1 : ∀ o : Obj, Sl ((w.alloc (.cells ((u8s (dg 1) ++ u8s (dg 2)).toArray) 25)).alloc o) 32 u8s (.slice (some ⟨w.heap.size, 0, none⟩) 2 2) [dg 1, dg 2] := fun o =>
    sl_of_block (l := [dg 1, dg 2]) ((Below.heap_alloc _ _ _ (by simp)).trans (World.alloc_heap_new w _)) (by rfl) (by decide) (by decide) (by decide)
  have s2 : ∀ o : Obj, Sl ((w.alloc o).alloc (.cells ((u8s (dg 1) ++ u8s (dg 3) ++ u8s (dg 4)).toArray) 25)) 32 u8s (.slice (some ⟨w.heap.size + 1, 0, none⟩) 3 3) [dg 1, dg 3, dg 4] := fun o =>
    sl_of_block (l := [dg 1, dg 3, dg 4]) (by have := World.alloc_heap_new (w.alloc o) (.cells ((u8s (dg 1) ++ u8s (dg 3) ++ u8s (dg 4)).toArray) 25); rwa [World.size_alloc] at this) (by rfl) (by decide) (by decide) (by decide)
  have hl1 : ∀ x ∈ [dg 1, dg 2], x.length = 32 := by decide
  have hl2 : ∀ x ∈ [dg 1, dg 3, dg 4], x.length = 32 := by decide
  refine (List_any _ _ _ [dg 1, dg 2] [dg 1, dg 3, dg 4] hl1 hl2 (s1 _) (s2 _) (by decide) (by decide)).mono ?_
  rintro e w1 ⟨v, rfl, hv, hB⟩
  go_wp2_with (fail)
  have s3 : Sl (w1.alloc (.cells (([7, 10] : List Int).flatMap encI).toArray 3)) 1 encI (.slice (some ⟨w1.heap.size, 0, none⟩) 2 2) [7, 10] :=
    sl_of_block (l := [7, 10]) (World.alloc_heap_new w1 _) (by rfl) (by decide) (by decide) (by decide)
  have b2 : Below w.heap.size w (w1.alloc (.cells (([7, 10] : List Int).flatMap encI).toArray 3)) := by
    have h0 : Below w.heap.size w ((w.alloc (.cells ((u8s (dg 1) ++ u8s (dg 2)).toArray) 25)).alloc (.cells ((u8s (dg 1) ++ u8s (dg 3) ++ u8s (dg 4)).toArray) 25)) := ((Below.refl _ w).alloc (Nat.le_refl _) _).alloc (by simp) _
    have h1 := h0.trans (hB.mono (by simp; omega))
    exact h1.alloc h1.size _
  have s4 : Sl (w1.alloc (.cells (([7, 10] : List Int).flatMap encI).toArray 3)) 32 u8s (.slice (some ⟨w.heap.size, 0, none⟩) 2 2) [dg 1, dg 2] :=
    (Kept.alloc 0 w1 _).sl ((Kept.of_below hB 0).sl (s1 _))
  have s5 : Sl (w1.alloc (.cells (([7, 10] : List Int).flatMap encI).toArray 3)) 32 u8s (.slice (some ⟨w.heap.size + 1, 0, none⟩) 3 3) [dg 1, dg 3, dg 4] :=
    (Kept.alloc 0 w1 _).sl ((Kept.of_below hB 0).sl (s2 _))
  clear s1 s2
  refine (Ints_eq _ _ _ _ _ ((Kept.alloc 0 w1 _).sl hv) s3 (by decide)).mono ?_
  rintro e w2 ⟨rfl, n, rfl⟩
  generalize w1.alloc (.cells (([7, 10] : List Int).flatMap encI).toArray 3) = W at *
  go_wp2_with (fail)
  refine (Kind_at (7) 3 (by decide) _ (by decide) (by decide)).mono ?_
  rintro e w' ⟨rfl, rfl⟩
  go_wp2_with (fail)
  refine (Place_at (7) 1 (by decide) _ (by decide) (by decide)).mono ?_
  rintro e w' ⟨rfl, rfl⟩
  go_wp2_with (fail)
  refine (Kind_at (10) 2 (by decide) _ (by decide) (by decide)).mono ?_
  rintro e w' ⟨rfl, rfl⟩
  go_wp2_with (fail)
  refine (Place_at (10) 2 (by decide) _ (by decide) (by decide)).mono ?_
  rintro e w' ⟨rfl, rfl⟩
  go_wp2_with (fail)
  refine (Kind_at (8) 0 (by decide) _ (by decide) (by decide)).mono ?_
  rintro e w' ⟨rfl, rfl⟩
  go_wp2_with (fail)
  refine (Place_at (8) 0 (by decide) _ (by decide) (by decide)).mono ?_
  rintro e w' ⟨rfl, rfl⟩
  go_wp2_with (fail)
  refine (Kind_at (-3) 0 (by decide) _ (by decide) (by decide)).mono ?_
  rintro e w' ⟨rfl, rfl⟩
  go_wp2_with (fail)
  refine (Same_any _ _ _ [dg 1, dg 2] [dg 1, dg 3, dg 4] hl1 hl2 ((Kept.drewN 0 W n).sl s4) ((Kept.drewN 0 W n).sl s5) (by decide) (by decide)).mono ?_
  rintro e w3 ⟨rfl, hB3⟩
  have q : same (plList [dg 1, dg 2] [dg 1, dg 3, dg 4]) = 1 := by decide
  rw [q]
  go_wp2
  go_ret
  exact ⟨rfl, (b2.drewN n).trans (hB3.mono b2.size)⟩
end Go.Proofs.Ytcjaeamfddhilaa
