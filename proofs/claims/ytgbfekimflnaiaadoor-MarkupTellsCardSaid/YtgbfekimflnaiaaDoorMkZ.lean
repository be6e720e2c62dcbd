/- MarkupTells: the walk. -/
import Derived.Test.YtgbfekimflnaiaaDoorMkU
import Derived.Test.YtgbfekimflnaiaaDoorMkW
import Derived.Test.YtgbfekimflnaiaaDoorMkT
namespace Go.Proofs.YtgbfekimflnaiaaDoor
open Go.RowKit Go.Shelf Go.Lib

/-- a part without its place in memory -/
def bare (x : Pt) : Int × List ByteArray := (x.1, x.2.2)
theorem bare_mem {M L : List Pt} (h : M.map bare = L.map bare) {x : Pt} (hx : x ∈ M) : ∃ y ∈ L, y.1 = x.1 ∧ y.2.2 = x.2.2 := by
  have : bare x ∈ L.map bare := by rw [← h]; exact List.mem_map.2 ⟨x, hx, rfl⟩
  obtain ⟨y, hy, e⟩ := List.mem_map.1 this
  exact ⟨y, hy, (Prod.mk.inj e).1, (Prod.mk.inj e).2⟩
theorem bare_len {M L : List Pt} (h : M.map bare = L.map bare) : M.length = L.length := by
  have := congrArg List.length h
  simpa using this
theorem bare_pt8 {M L : List Pt} (h : M.map bare = L.map bare) : M.map pt8 = L.map pt8 := by
  have e : ∀ X : List Pt, X.map pt8 = (X.map bare).map fun q => p8 q.1 q.2 := fun X => by rw [List.map_map]; rfl
  rw [e, e, h]
theorem bare_allG {M L : List Pt} (h : M.map bare = L.map bare) : allG M = allG L := by
  have e : ∀ X : List Pt, allG X = (X.map bare).all fun q => goodB q.1 q.2 := fun X => by rw [List.all_map]; rfl
  rw [e, e, h]
theorem bare_source {M L : List Pt} (h : M.map bare = L.map bare) : sourceR M = sourceR L := by
  unfold sourceR
  rw [bare_allG h, bare_pt8 h]

set_option maxRecDepth 100000 in
set_option maxHeartbeats 8000000 in
theorem MarkupTells_any (s : ByteArray) (v : Value) (L : List Pt) (w : World) (hT : Tabs w) (hsl : Sl w 2 encPt v L) (hws : ∀ x ∈ L, Sl w 1 encT x.2.1 x.2.2) :
    Calls Tryd.prog 3 #[.string s, v] w fun e w' => e = .returned (.bool true) ∧ Below w.heap.size w w' := by
  obtain ⟨p, cap, rfl, hmx⟩ := hsl.shape
  unfold maxLen at hmx
  have cW := hid (wakes_any w hT)
  have cF := hid (FairP_any _ L w hsl hws)
  go_enter Tryd.func3, Tryd.ntmps3
  by_cases h1000 : (1000 : Int) < s.size
  · go_wp2_with (fail)
    refine cW.out.mono ?_
    rintro e w1 ⟨rfl, b1⟩
    go_wp2_with (fail)
    go_ret
    exact ⟨rfl, b1⟩
  · go_wp2_with (fail)
    refine cF.out.mono ?_
    rintro e w1 ⟨⟨fb, rfl, hfb⟩, rfl⟩
    cases fb
    · go_wp2_with (fail)
      refine cW.out.mono ?_
      rintro e w1 ⟨rfl, b1⟩
      go_wp2_with (fail)
      go_ret
      exact ⟨rfl, b1⟩
    · obtain ⟨g1, g2, g3, g4⟩ := fair_sizes (hfb rfl)
      have cP := hid (Parse_any s _ hT (by omega))
      clear cW cF hfb
      go_wp2_with (fail)
      refine cP.out.mono ?_
      rintro e w2 ⟨v1, L1, n1, rfl, hp1, o1, s1, b2⟩
      obtain ⟨p1, q1, rfl, -, -⟩ := owns_shape o1
      have z1 : Sl w2 2 encPt (.slice p1 L1.length q1) L1 := sl_of_owns (fun _ _ => rfl) o1
      have cR := hid (rParse_any s w2 (by omega))
      clear cP o1
      go_wp2_with (fail)
      refine cR.out.mono ?_
      rintro e w3 ⟨v2, L2, n2, rfl, hp2, o2, s2, b3⟩
      obtain ⟨hn12, hL12⟩ := Prod.mk.inj (hp1.symm.trans hp2)
      subst hn12
      obtain ⟨p2, q2, rfl, -, -⟩ := owns_shape o2
      have z2 : Sl w3 2 encPt (.slice p2 L2.length q2) L2 := sl_of_owns (fun _ _ => rfl) o2
      have B3 := b2.trans (b3.mono b2.size)
      have cO := hid (Own_any _ L w3 ((Kept.of_below B3 0).sl hsl) (fun x hx => (Kept.of_below B3 0).sl (hws x hx)) (by omega) (fun x hx => (g3 x hx).1))
      clear cR o2 hp1 hp2
      replace hL12 := hid hL12
      go_wp2_with (fail)
      refine cO.out.mono ?_
      rintro e w4 ⟨v3, M, rfl, zM, sM, hM0, b4⟩
      have hM : M.map bare = L.map bare := hM0
      obtain ⟨p3, q3, rfl, -⟩ := zM.shape
      have B4 := B3.trans (b4.mono B3.size)
      have hMS := bare_source hM
      have hMG := bare_allG hM
      have hM8 := bare_pt8 hM
      have m4 := g4
      rw [← hM8] at m4
      have hMl := bare_len hM
      have cS := hid (Source_any _ M w4 zM sM (fun x hx => by obtain ⟨y, hy, -, e⟩ := bare_mem hM hx; rw [← e]; exact g1 y hy) (by omega) (fun x hx => by obtain ⟨y, hy, -, e⟩ := bare_mem hM hx; rw [← e]; exact g3 y hy) m4 (hT.below B4))
      have m1 : ∀ x ∈ M, ∀ s ∈ x.2.2, s.size ≤ 1000000 := fun x hx => by obtain ⟨y, hy, -, e⟩ := bare_mem hM hx; rw [← e]; exact g1 y hy
      clear cO hM0
      replace hM := hid hM
      replace hMS := hid hMS
      replace hMG := hid hMG
      replace hM8 := hid hM8
      replace hMl := hid hMl
      replace m4 := hid m4
      go_wp2_with (fail)
      refine cS.out.mono ?_
      rintro e w5 ⟨x, n3, rfl, hx, b5⟩
      have B5 := B4.trans (b5.mono B4.size)
      have cT := hid (rSource_any _ L w5 ((Kept.of_below B5 0).sl hsl) (fun x hx => (Kept.of_below B5 0).sl (hws x hx)) g1)
      clear cS
      go_wp2_with (fail)
      refine cT.out.mono ?_
      rintro e w6 ⟨y, n4, rfl, hy, b6⟩
      obtain ⟨hxy, hn34⟩ := Prod.mk.inj (hx.trans (hMS.out.trans hy.symm))
      obtain rfl : x = y := ba_ext8 hxy
      subst hn34
      have B6 := B5.trans (b6.mono B5.size)
      have q26 : Below w2.heap.size w2 w6 := b3.trans ((b4.mono b3.size).trans ((b5.mono (Nat.le_trans b3.size b4.size)).trans (b6.mono (Nat.le_trans (Nat.le_trans b3.size b4.size) b5.size))))
      have q36 : Below w3.heap.size w3 w6 := b4.trans ((b5.mono b4.size).trans (b6.mono (Nat.le_trans b4.size b5.size)))
      have q46 : Below w4.heap.size w4 w6 := b5.trans (b6.mono b5.size)
      have cE := hid (Parts_eq w6 _ _ L1 L2 ((Kept.of_below q26 0).sl z1) ((Kept.of_below q36 0).sl z2) (fun x hx => (Kept.of_below q26 0).sl (s1 x hx)) (fun x hx => (Kept.of_below q36 0).sl (s2 x hx)) hL12.out)
      clear cT hx hy hxy z1 z2 s1 s2
      have hxx : (x.toList == x.toList) = true := beq_self_eq_true _
      go_wp2_with (fail)
      refine cE.out.mono ?_
      rintro e w7 ⟨rfl, b7⟩
      have B7 := B6.trans (b7.mono B6.size)
      have q47 := q46.trans (b7.mono q46.size)
      have cG := hid (Good_any _ M w7 ((Kept.of_below q47 0).sl zM) (fun x hx => (Kept.of_below q47 0).sl (sM x hx)) m1 (hT.below B7))
      clear cE
      go_wp2_with (fail)
      refine cG.out.mono ?_
      rintro e w8 ⟨rfl, b8⟩
      have B8 := B7.trans (b8.mono B7.size)
      have q48 := q47.trans (b8.mono q47.size)
      have cH := hid (rGood_any _ L w8 ((Kept.of_below B8 0).sl hsl) (fun x hx => (Kept.of_below B8 0).sl (hws x hx)) g1)
      rw [← hMG.out] at cH
      obtain ⟨ag, hag⟩ : ∃ b, allG M = b := ⟨_, rfl⟩
      rw [hag] at cH ⊢
      have haa : (ag == ag) = true := beq_self_eq_true _
      clear cG hag hMG
      go_wp2_with (fail)
      refine cH.out.mono ?_
      rintro e w9 ⟨rfl, b9⟩
      have B9 := B8.trans (b9.mono B8.size)
      have q49 := q48.trans (b9.mono q48.size)
      have cU := hid (Words_any s w9 (by omega))
      have cV := hid (fun V => rWords_any s V (by omega))
      generalize wdsB s = ws at *
      clear cH
      go_wp2_with (fail)
      refine cU.out.mono ?_
      rintro e w10 ⟨v10, rfl, o10, b10⟩
      obtain ⟨p10, q10, rfl, -, -⟩ := owns_shape o10
      have B10 := B9.trans (b10.mono B9.size)
      have q410 := q49.trans (b10.mono q49.size)
      clear cU
      go_wp2_with (fail)
      refine (cV.out _).mono ?_
      rintro e w11 ⟨v11, rfl, o11, b11⟩
      obtain ⟨p11, q11, rfl, -, -⟩ := owns_shape o11
      have B11 := B10.trans (b11.mono B10.size)
      have q411 := q410.trans (b11.mono q410.size)
      have cX := hid (Texts_eq w11 _ _ ws ((Kept.of_below b11 0).sl (sl_of_owns (fun _ _ => rfl) o10)) (sl_of_owns (fun _ _ => rfl) o11))
      clear cV o10 o11
      go_wp2_with (fail)
      refine cX.out.mono ?_
      rintro e w12 ⟨rfl, nd, rfl⟩
      have B12 := B11.drewN nd
      have q412 := q411.drewN nd
      have cY := hid (Parts_eq _ _ _ M L ((Kept.of_below q412 0).sl zM) ((Kept.of_below B12 0).sl hsl) (fun x hx => (Kept.of_below q412 0).sl (sM x hx)) (fun x hx => (Kept.of_below B12 0).sl (hws x hx)) hM8.out)
      clear cX
      go_wp2_with (fail)
      refine cY.out.mono ?_
      rintro e w13 ⟨rfl, b13⟩
      have B13 := B12.trans (b13.mono B12.size)
      have cW := hid (wakes_any w13 (hT.below B13))
      clear cY
      go_wp2_with (fail)
      refine cW.out.mono ?_
      rintro e w14 ⟨rfl, b14⟩
      go_wp2_with (fail)
      go_ret
      exact ⟨rfl, B13.trans (b14.mono B13.size)⟩
end Go.Proofs.YtgbfekimflnaiaaDoor
