/- The walks of layer 13's wakes, and of HyphenTells. -/
import Derived.Test.YtgakaomcdpgnkaaDoorHypZ
import Derived.Test.YtgakaomcdpgnkaaDoorHypQ
import Derived.Test.YtgakaomcdpgnkaaDoorKeep
import Derived.Test.YtgakaomcdpgnkaaDoorUtfS
namespace Go.Proofs.YtgakaomcdpgnkaaDoor
open Go.RowKit Go.Shelf

theorem IntsSame (w : World) (va vb : Value) (a : List Int) (ha : Sl w 1 encI va a) (hb : Sl w 1 encI vb a) :
    Calls Tryd.prog 17 #[va, vb] w fun e w' => e = .returned (.bool true) ∧ Drew w w' :=
  (Ints_any w va vb a a ha hb).mono (by rintro e w' ⟨rfl, n, rfl⟩; exact ⟨by simp, n, rfl⟩)
theorem Pts_at {w0 : World} (hR : Asp w0) {W : World} (hB : Below w0.heap.size w0 W) (s : ByteArray) (l : List Int) (hs : s.size ≤ 1000) (hl : pointsL (numbersL s.data.toList) = l) :
    Calls Tryd.prog 20 #[.string s] W fun e w' => ∃ v, e = .returned v ∧ Sl w' 1 encI v l ∧ Below W.heap.size W w' ∧ Below w0.heap.size w0 w' :=
  (Points_any s W hs (hR.below hB)).mono (by rintro e w' ⟨v, rfl, h1, h2⟩; exact ⟨v, rfl, hl ▸ h1, h2, hB.trans (h2.mono hB.size)⟩)
theorem Nums_at {w0 : World} (hR : Asp w0) {W : World} (hB : Below w0.heap.size w0 W) (s : ByteArray) (l : List Int) (hs : s.size ≤ 1000) (hl : numbersL s.data.toList = l) :
    Calls Tryd.prog 18 #[.string s] W fun e w' => ∃ v, e = .returned v ∧ Sl w' 1 encI v l ∧ Below W.heap.size W w' ∧ Below w0.heap.size w0 w' :=
  (Numbers_any s W hs (hR.below hB)).mono (by rintro e w' ⟨v, rfl, h1, h2⟩; exact ⟨v, rfl, hl ▸ h1, h2, hB.trans (h2.mono hB.size)⟩)
theorem Sl.nil_shape {α : Type} {w : World} {k : Nat} {enc : α → List Value} {v : Value} (h : Sl w k enc v []) : ∃ p c, v = .slice p 0 c := by
  obtain ⟨p, c, rfl, -⟩ := h.shape
  exact ⟨p, c, rfl⟩

set_option maxRecDepth 100000 in
set_option maxHeartbeats 4000000 in
theorem wakes13 (w : World) (hR : Asp w) : Calls Tryd.prog 16 #[] w fun e w' => e = .returned (.bool true) ∧ Below w.heap.size w w' := by
  go_enter Tryd.func16, Tryd.ntmps16
  go_wp2_with (fail)
  refine (Pts_at hR (Below.refl _ _) _ [2] (by decide) wk1).mono ?_
  rintro e w1 ⟨v1, rfl, s1, -, b1⟩
  go_wp2_with (fail)
  refine (IntsSame _ _ _ [2] ((Kept.alloc 0 _ _).sl s1) (sl_lit w1 [2] (by decide))).mono ?_
  rintro e w2 ⟨rfl, d2⟩
  replace b1 := below_drew (b1.alloc b1.size _) d2
  clear d2 s1
  go_wp2_with (fail)
  refine (Pts_at hR b1 _ [2] (by decide) wk2).mono ?_
  rintro e w3 ⟨v2, rfl, s1, -, b3⟩
  go_wp2_with (fail)
  refine (IntsSame _ _ _ [2] ((Kept.alloc 0 _ _).sl s1) (sl_lit w3 [2] (by decide))).mono ?_
  rintro e w4 ⟨rfl, d2⟩
  replace b1 := below_drew (b3.alloc b3.size _) d2
  clear d2 s1 b3
  go_wp2_with (fail)
  refine (Pts_at hR b1 _ [] (by decide) wk3).mono ?_
  rintro e w5 ⟨v3, rfl, s1, -, b3⟩
  obtain ⟨p3, c3, rfl⟩ := s1.nil_shape
  clear s1 b1
  go_wp2_with (fail)
  refine (Pts_at hR b3 _ [] (by decide) wk4).mono ?_
  rintro e w6 ⟨v4, rfl, s1, -, b1⟩
  obtain ⟨p4, c4, rfl⟩ := s1.nil_shape
  clear s1 b3
  go_wp2_with (fail)
  refine (Nums_at hR b1 _ [0, 1] (by decide) wk5).mono ?_
  rintro e w7 ⟨v5, rfl, s1, -, b3⟩
  go_wp2_with (fail)
  refine (IntsSame _ _ _ [0, 1] ((Kept.alloc 0 _ _).sl s1) (sl_lit w7 [0, 1] (by decide))).mono ?_
  rintro e w8 ⟨rfl, d2⟩
  replace b1 := below_drew (b3.alloc b3.size _) d2
  clear d2 s1 b3
  go_wp2_with (fail)
  refine (Nums_at hR b1 _ [] (by decide) wk6).mono ?_
  rintro e w9 ⟨v6, rfl, s1, -, b3⟩
  obtain ⟨p6, c6, rfl⟩ := s1.nil_shape
  go_wp2_with (fail)
  go_ret
  exact ⟨rfl, b3⟩

set_option maxRecDepth 100000 in
set_option maxHeartbeats 4000000 in
theorem HyphenTells_any (s : ByteArray) (w : World) (hR : Asp w) : Calls Tryd.prog 5 #[.string s] w fun e w' => e = .returned (.bool true) ∧ Below w.heap.size w w' := by
  by_cases h0 : (s.size : Int) ≤ 500
  · go_enter Tryd.func5, Tryd.ntmps5
    have cN := hid (Nums_at hR (Below.refl _ _) s _ (by omega) rfl)
    have cRN := hid (fun W => RNumbers_any s W (by omega))
    have cP := hid (fun W (hB : Below w.heap.size w W) => Pts_at hR hB s _ (by omega) rfl)
    have cRP := hid (fun W => RPoints_any s W (by omega))
    generalize pointsL (numbersL s.data.toList) = PL at *
    generalize numbersL s.data.toList = NL at *
    go_wp2_with (fail)
    refine cN.out.mono ?_
    rintro e w1 ⟨v1, rfl, s1, -, b1⟩
    go_wp2_with (fail)
    refine (cRN.out w1).mono ?_
    rintro e w2 ⟨v2, rfl, s2, b2⟩
    replace s1 := (Kept.of_below b2 0).sl s1
    replace b1 := b1.trans (b2.mono b1.size)
    clear b2
    go_wp2_with (fail)
    refine (IntsSame _ _ _ _ s1 s2).mono ?_
    rintro e w3 ⟨rfl, d2⟩
    replace b1 := below_drew b1 d2
    clear d2 s1 s2 cN cRN
    go_wp2_with (fail)
    refine (cP.out _ b1).mono ?_
    rintro e w4 ⟨v3, rfl, s1, -, b1⟩
    go_wp2_with (fail)
    refine (cRP.out w4).mono ?_
    rintro e w5 ⟨v4, rfl, s2, b2⟩
    replace s1 := (Kept.of_below b2 0).sl s1
    replace b1 := b1.trans (b2.mono b1.size)
    clear b2
    go_wp2_with (fail)
    refine (IntsSame _ _ _ _ s1 s2).mono ?_
    rintro e w6 ⟨rfl, d2⟩
    replace b1 := below_drew b1 d2
    clear d2 s1 s2 cP cRP
    go_wp2_with (fail)
    refine (wakes13 _ (hR.below b1)).mono ?_
    rintro e w7 ⟨rfl, b2⟩
    go_wp2
    go_ret
    exact ⟨rfl, b1.trans (b2.mono b1.size)⟩
  · go_enter Tryd.func5, Tryd.ntmps5
    go_wp2_with (fail)
    refine (wakes13 _ hR).mono ?_
    rintro e w7 ⟨rfl, b2⟩
    go_wp2
    go_ret
    exact ⟨rfl, b2⟩
end Go.Proofs.YtgakaomcdpgnkaaDoor
