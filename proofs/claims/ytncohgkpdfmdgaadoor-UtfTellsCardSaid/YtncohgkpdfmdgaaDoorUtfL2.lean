/- The walk of UtfTells. -/
import Derived.Test.YtncohgkpdfmdgaaDoorUtfS
import Derived.Deep.RegionHeld3
import Derived.Deep.DeepCutAuto
namespace Go.Proofs.YtncohgkpdfmdgaaDoor
open Go.RowKit Go.Shelf

/-- what a region keeps: a block of two cells, and what stood below -/
theorem keep2 {w0 W W' : World} {b : Nat} {x y : Value} (hw : b < w0.heap.size) (h : W.cell? ⟨b, 0, none⟩ = some x ∧ W.cell? ⟨b, 1, none⟩ = some y ∧ Below w0.heap.size w0 W) (hb : Below W.heap.size W W') :
    W'.cell? ⟨b, 0, none⟩ = some x ∧ W'.cell? ⟨b, 1, none⟩ = some y ∧ Below w0.heap.size w0 W' := by
  obtain ⟨h1, h2, h3⟩ := h
  have hl : b < W.heap.size := by have := h3.size; omega
  exact ⟨(hb.cell (p := ⟨b, 0, none⟩) hl).trans h1, (hb.cell (p := ⟨b, 1, none⟩) hl).trans h2, h3.trans (hb.mono h3.size)⟩

set_option maxRecDepth 100000 in
set_option maxHeartbeats 4000000 in
theorem UtfTells_any (s : ByteArray) (v : Value) (l : List Int) (n : Int) (w : World) (hT : Tabs w) (hl : Sl w 1 encI v l) (hr : ∀ x ∈ l, -9223372036854775808 ≤ x ∧ x ≤ 9223372036854775807) (z1 : -9223372036854775808 ≤ n) (z2 : n ≤ 9223372036854775807) :
    Calls Tryd.prog 6 #[.string s, v, .int .i64 n] w fun e w' => e = .returned (.bool true) ∧ Below w.heap.size w w' := by
  obtain ⟨p, cap, rfl, hmx⟩ := hl.shape
  obtain ⟨i0, hi, hz0, hz1, hz2⟩ := info_parts Tryd.infoI
  by_cases h0 : s.size ≤ 2000 ∧ l.length ≤ 1000
  · obtain ⟨h1, h2⟩ := h0
    have k1 : (s.size : Int) ≤ 2000 := by omega
    have k2 : (l.length : Int) ≤ 1000 := by omega
    have c1 := RSigns_any s w (by omega)
    have Hl := hid hl
    have Hr := hid hr
    have HT := hid hT
    clear hl hr hT
    go_enter Tryd.func6, Tryd.ntmps6
    go_wp2_with (fail)
    refine c1.mono ?_
    rintro e w1 ⟨r1, rfl, hr1, B1⟩
    obtain ⟨d, hd⟩ : ∃ d, Lib.validD s.data.toList = d := ⟨_, rfl⟩
    rw [hd]
    have Hd := hid hd
    clear c1 hd
    have Hr1 := hid hr1
    obtain ⟨q1, q2, rfl, -⟩ := hr1.shape
    clear hr1
    go_upto_region 4 with (fail)
    have kc0 := World.alloc_heap_new w1 (.cells #[Value.slice q1 (sgn s.data.toList).length q2, Value.bool d] 33)
    have B2 := B1.alloc B1.size (.cells #[Value.slice q1 (sgn s.data.toList).length q2, Value.bool d] 33)
    have hr2 := (Kept.alloc 0 w1 (.cells #[Value.slice q1 (sgn s.data.toList).length q2, Value.bool d] 33)).sl (Hid.out Hr1)
    have hw2 : w1.heap.size < (w1.alloc (.cells #[Value.slice q1 (sgn s.data.toList).length q2, Value.bool d] 33)).heap.size := by simp
    clear Hr1
    obtain ⟨b, hb⟩ : ∃ b, w1.heap.size = b := ⟨_, rfl⟩
    rw [hb] at kc0 hw2 ⊢
    generalize w1.alloc (.cells #[Value.slice q1 (sgn s.data.toList).length q2, Value.bool d] 33) = w2 at *
    have kc1 : w2.cell? ⟨b, 0, none⟩ = some (Value.slice q1 (sgn s.data.toList).length q2) := by simp [World.cell?, kc0]
    have kc2 : w2.cell? ⟨b, 1, none⟩ = some (Value.bool d) := by simp [World.cell?, kc0]
    have hl2 := (Kept.of_below B2 0).sl (Hid.out Hl)
    have o1 := owns_empty w2 w2.heap.size 3 1 (Nat.le_refl _)
    have b1 : Below w2.heap.size w2 (w2.alloc (.cells #[] 3)) := (Below.refl _ w2).alloc (Nat.le_refl _) _
    clear kc0 hb
    go_wp2_with (at_builtin; go_must (refine wpList_append_sl rfl _ _ 26 rfl w2.heap.size 3 i0 _ 1 8 Tryd.underlying26 hi hz0 hz1 hz2 rfl (by decide) _ _ _ rfl o1 encI _ l rfl ((Kept.of_below b1 0).sl hl2) (encI_enc l) (by unfold maxLen; omega) (by omega) (by simp) ?_; intro v1 w3 ho1 hg1 hx1; clear hx1))
    have hv3 : Sl w3 1 encI v1 l := sl_of_owns (fun _ _ => rfl) (by simpa using ho1)
    have d3 : Below w2.heap.size w2 w3 := b1.grown hg1 b1.size (fun j e => own_base o1 e)
    clear o1 b1 ho1 hg1 hi hz0 hz1 hz2
    obtain ⟨T, e0, b0, t1, t2, t3⟩ : ∃ (T : ByteArray) (e0 : Int) (b0 : Bool), textOut l = #[.string T, .int .i64 e0] ∧ rtextOut l = #[.string T, .bool b0] ∧ (e0 = 0 ∧ b0 = true ∨ e0 = 11 ∧ b0 = false) := by
      by_cases h : ∀ x ∈ l, okv x
      · exact ⟨_, 0, true, if_pos h, if_pos h, .inl ⟨rfl, rfl⟩⟩
      · exact ⟨_, 11, false, if_neg h, if_neg h, .inr ⟨rfl, rfl⟩⟩
    refine (UText_any _ l _ (by omega) hv3 (Hid.out Hr)).mono ?_
    rintro e w4 ⟨rfl, d4⟩
    rw [t1]
    have d4' := d3.trans (d4.mono d3.size)
    have Ht2 := hid t2
    have Hv3 := hid hv3
    clear t1 t2 hv3 d3
    go_wp2_with (fail)
    refine (RText_any _ l _ (by omega) ((Kept.of_below d4' 0).sl hl2) (Hid.out Hr)).mono ?_
    rintro e w5 ⟨rfl, d5⟩
    rw [Hid.out Ht2]
    have d5' := d4'.trans (d5.mono d4'.size)
    have hv5 := (Kept.of_below d5 0).sl ((Kept.of_below d4 0).sl (Hid.out Hv3))
    have hl5 := (Kept.of_below d5' 0).sl hl2
    have hr5 := (Kept.of_below d5' 0).sl hr2
    have f1 : w5.cell? ⟨b, 0, none⟩ = some (Value.slice q1 (sgn s.data.toList).length q2) := (d5'.cell (p := ⟨b, 0, none⟩) hw2).trans kc1
    have f2 : w5.cell? ⟨b, 1, none⟩ = some (Value.bool d) := (d5'.cell (p := ⟨b, 1, none⟩) hw2).trans kc2
    have hw5 : b < w5.heap.size := by have := d5'.size; omega
    have B5 := B2.trans (d5'.mono B2.size)
    have T5 := (Hid.out HT).below B5
    clear d4 d4' d5 d5' kc1 kc2 Hv3 hl2 hr2 hw2
    have cV : ∀ W, (W.cell? ⟨b, 0, none⟩ = some (Value.slice q1 (sgn s.data.toList).length q2) ∧ W.cell? ⟨b, 1, none⟩ = some (Value.bool d) ∧ Below w5.heap.size w5 W) → Calls Tryd.prog 16 #[.string s] W fun e w' => e = .returned (.bool d) ∧ Below W.heap.size W w' := by
      intro W hS
      have := Valid_any s W (by omega) (T5.below hS.2.2)
      rw [Hid.out Hd] at this; exact this
    have cS : ∀ W, (W.cell? ⟨b, 0, none⟩ = some (Value.slice q1 (sgn s.data.toList).length q2) ∧ W.cell? ⟨b, 1, none⟩ = some (Value.bool d) ∧ Below w5.heap.size w5 W) → Calls Tryd.prog 15 #[.string s] W fun e w' => ∃ v, e = .returned v ∧ Sl w' 1 encI v (sgn s.data.toList) ∧ Below W.heap.size W w' := by
      intro W hS
      exact Signs_any s W (by omega) (T5.below hS.2.2)
    have cR : ∀ W, (W.cell? ⟨b, 0, none⟩ = some (Value.slice q1 (sgn s.data.toList).length q2) ∧ W.cell? ⟨b, 1, none⟩ = some (Value.bool d) ∧ Below w5.heap.size w5 W) → Sl W 1 encI (Value.slice q1 (sgn s.data.toList).length q2) (sgn s.data.toList) := fun W hS => (Kept.of_below hS.2.2 0).sl hr5
    have cJ : ∀ W vs, Sl W 1 encI vs (sgn s.data.toList) → (W.cell? ⟨b, 0, none⟩ = some (Value.slice q1 (sgn s.data.toList).length q2) ∧ W.cell? ⟨b, 1, none⟩ = some (Value.bool d) ∧ Below w5.heap.size w5 W) → Calls Tryd.prog 21 #[vs, Value.slice q1 (sgn s.data.toList).length q2] W fun e w' => e = .returned (.bool true) ∧ Below W.heap.size W w' := by
      intro W vs h hS
      exact (Ints_eq _ _ _ _ _ h (cR W hS) rfl).mono fun e w' ⟨he, m, hm⟩ => ⟨he, hm ▸ (Below.refl _ W).drewN m⟩
    have cI : ∀ W, (W.cell? ⟨b, 0, none⟩ = some (Value.slice q1 (sgn s.data.toList).length q2) ∧ W.cell? ⟨b, 1, none⟩ = some (Value.bool d) ∧ Below w5.heap.size w5 W) → Calls Tryd.prog 21 #[v1, .slice p l.length cap] W fun e w' => e = .returned (.bool true) ∧ Below W.heap.size W w' := by
      intro W hS
      exact (Ints_eq _ _ _ _ _ ((Kept.of_below hS.2.2 0).sl hv5) ((Kept.of_below hS.2.2 0).sl hl5) rfl).mono fun e w' ⟨he, m, hm⟩ => ⟨he, hm ▸ (Below.refl _ W).drewN m⟩
    have cLo := fun W => (Lower_any n W z1 z2).mono fun e w' (h : e = .returned (.int .i64 (lower n)) ∧ W = w') => (⟨h.1, h.2 ▸ Below.refl W.heap.size W⟩ : e = .returned (.int .i64 (lower n)) ∧ Below W.heap.size W w')
    have cRo := fun W => (RLower_any n W z1 z2).mono fun e w' (h : e = .returned (.int .i64 (lower n)) ∧ W = w') => (⟨h.1, h.2 ▸ Below.refl W.heap.size W⟩ : e = .returned (.int .i64 (lower n)) ∧ Below W.heap.size W w')
    have cLe := fun W => (Letter_any n W z1 z2).mono fun e w' (h : e = .returned (.bool (letter n)) ∧ W = w') => (⟨h.1, h.2 ▸ Below.refl W.heap.size W⟩ : e = .returned (.bool (letter n)) ∧ Below W.heap.size W w')
    have cRe := fun W => (RLetter_any n W z1 z2).mono fun e w' (h : e = .returned (.bool (letter n)) ∧ W = w') => (⟨h.1, h.2 ▸ Below.refl W.heap.size W⟩ : e = .returned (.bool (letter n)) ∧ Below W.heap.size W w')
    generalize lower n = ln at cLo cRo
    generalize letter n = tn at cLe cRe
    replace cLo := hid cLo
    replace cRo := hid cRo
    replace cLe := hid cLe
    replace cRe := hid cRe
    have cW : ∀ W, (W.cell? ⟨b, 0, none⟩ = some (Value.slice q1 (sgn s.data.toList).length q2) ∧ W.cell? ⟨b, 1, none⟩ = some (Value.bool d) ∧ Below w5.heap.size w5 W) → Calls Tryd.prog 17 #[] W fun e w' => e = .returned (.bool true) ∧ Below W.heap.size W w' := fun W hS => wakes9 W (T5.below hS.2.2)
    have fin : ∀ W, (W.cell? ⟨b, 0, none⟩ = some (Value.slice q1 (sgn s.data.toList).length q2) ∧ W.cell? ⟨b, 1, none⟩ = some (Value.bool d) ∧ Below w5.heap.size w5 W) → Below w.heap.size w W := fun W hS => B5.trans (hS.2.2.mono B5.size)
    have st : (fun W : World => W.cell? ⟨b, 0, none⟩ = some (Value.slice q1 (sgn s.data.toList).length q2) ∧ W.cell? ⟨b, 1, none⟩ = some (Value.bool d) ∧ Below w5.heap.size w5 W) w5.drew := ⟨f1, f2, (Below.refl _ w5).drew⟩
    replace cV := hid cV
    replace cS := hid cS
    clear cR
    replace cI := hid cI
    replace cJ := hid cJ
    replace cW := hid cW
    replace fin := hid fin
    replace st := hid st
    replace hw5 := hid hw5
    clear hl5 hr5 hv5 B5 T5 B1 B2
    clear Hl Hr HT Hd h1 h2 k1 k2 hmx Ht2
    rcases t3 with ⟨rfl, rfl⟩ | ⟨rfl, rfl⟩
    · go_upto_region 7 with (fail)
      refine wp_region_held_drew (S := (fun W => W.cell? ⟨b, 0, none⟩ = some (Value.slice q1 (sgn s.data.toList).length q2) ∧ W.cell? ⟨b, 1, none⟩ = some (Value.bool d) ∧ Below w5.heap.size w5 W)) (by kernel_rfl) (Hid.out st) (fun hHeld => ?_)
      refine wpAnyH_take (i := 0) (oi := ⟨some 37, _, _, _, _, _⟩) (v := ?_) rfl (by kernel_rfl) (by kernel_rfl) (by kernel_rfl) (fun _ _ _ h => h) (Or.inl ⟨by rfl, ?_⟩) (by assumption) ?_
      rotate_left
      · intro w hSw; (try dsimp only at hSw); go_simp <;> with_reducible rfl
      try simp only [Act.put, List.setIfInBounds_toArray, List.set_cons_zero, List.set_cons_succ]
      refine wpAnyH_take (i := 2) (oi := ⟨some 39, _, _, _, _, _⟩) (v := ?_) rfl (by kernel_rfl) (by kernel_rfl) (by kernel_rfl) (fun _ _ _ h => h) (Or.inl ⟨by rfl, ?_⟩) (by assumption) ?_
      rotate_left
      · intro w hSw; (try dsimp only at hSw); go_simp <;> with_reducible rfl
      try simp only [Act.put, List.setIfInBounds_toArray, List.set_cons_zero, List.set_cons_succ]
      refine wpAnyH_take (i := 3) (oi := ⟨some 40, _, _, _, _, _⟩) (v := ?_) rfl (by kernel_rfl) (by kernel_rfl) (by kernel_rfl) (fun _ _ _ h => h) (Or.inl ⟨by rfl, ?_⟩) (by assumption) ?_
      rotate_left
      · intro w hSw; (try dsimp only at hSw); go_simp <;> with_reducible rfl
      try simp only [Act.put, List.setIfInBounds_toArray, List.set_cons_zero, List.set_cons_succ]
      refine wpAnyH_ready (rs := [1]) (by kernel_rfl) (by simp) ?_
      refine AllReadyH.cons rfl (fun K hK => ?_) AllReadyH.nil
      go_simp
      refine (Hid.out cV _ ‹_›).mono ?_; rintro e w' ⟨rfl, hb9⟩
      try go_wp2_with fail
      refine hK.out _ _ (keep2 (Hid.out hw5) (by assumption) hb9) (fun hHeld => ?_)
      clear hK K
      try simp only [Act.put, List.setIfInBounds_toArray, List.set_cons_zero, List.set_cons_succ]
      refine wpAnyH_take (i := 4) (oi := ⟨some 41, _, _, _, _, _⟩) (v := ?_) rfl (by kernel_rfl) (by kernel_rfl) (by kernel_rfl) (fun _ _ _ h => h) (Or.inl ⟨by rfl, ?_⟩) (by assumption) ?_
      rotate_left
      · intro w hSw; (try dsimp only at hSw); go_simp <;> with_reducible rfl
      try simp only [Act.put, List.setIfInBounds_toArray, List.set_cons_zero, List.set_cons_succ]
      refine wpAnyH_take (i := 5) (oi := ⟨some 42, _, _, _, _, _⟩) (v := ?_) rfl (by kernel_rfl) (by kernel_rfl) (by kernel_rfl) (fun _ _ _ h => h) (Or.inl ⟨by rfl, ?_⟩) (by assumption) ?_
      rotate_left
      · intro w hSw; (try dsimp only at hSw); go_simp <;> with_reducible rfl
      try simp only [Act.put, List.setIfInBounds_toArray, List.set_cons_zero, List.set_cons_succ]
      refine wpAnyH_take (i := 6) (oi := ⟨some 43, _, _, _, _, _⟩) (v := ?_) rfl (by kernel_rfl) (by kernel_rfl) (by kernel_rfl) (fun _ _ _ h => h) (Or.inl ⟨by rfl, ?_⟩) (by assumption) ?_
      rotate_left
      · intro w hSw; (try dsimp only at hSw); go_simp <;> with_reducible rfl
      try simp only [Act.put, List.setIfInBounds_toArray, List.set_cons_zero, List.set_cons_succ]
      refine wpAnyH_take (i := 8) (oi := ⟨some 45, _, _, _, _, _⟩) (v := ?_) rfl (by kernel_rfl) (by kernel_rfl) (by kernel_rfl) (fun _ _ _ h => h) (Or.inl ⟨by rfl, ?_⟩) (by assumption) ?_
      rotate_left
      · intro w hSw; (try dsimp only at hSw); go_simp <;> with_reducible rfl
      try simp only [Act.put, List.setIfInBounds_toArray, List.set_cons_zero, List.set_cons_succ]
      refine wpAnyH_take (i := 9) (oi := ⟨some 46, _, _, _, _, _⟩) (v := ?_) rfl (by kernel_rfl) (by kernel_rfl) (by kernel_rfl) (fun _ _ _ h => h) (Or.inl ⟨by rfl, ?_⟩) (by assumption) ?_
      rotate_left
      · intro w hSw; (try dsimp only at hSw); go_simp <;> with_reducible rfl
      try simp only [Act.put, List.setIfInBounds_toArray, List.set_cons_zero, List.set_cons_succ]
      refine wpAnyH_ready (rs := [7]) (by kernel_rfl) (by simp) ?_
      refine AllReadyH.cons rfl (fun K hK => ?_) AllReadyH.nil
      go_simp
      refine (Hid.out cS _ ‹_›).mono ?_; rintro e w' ⟨vs, rfl, hsv, hb9⟩
      try go_wp2_with fail
      refine hK.out _ _ (keep2 (Hid.out hw5) (by assumption) hb9) (fun hHeld => ?_)
      clear hK K
      try simp only [Act.put, List.setIfInBounds_toArray, List.set_cons_zero, List.set_cons_succ]
      refine wpAnyH_ready (rs := [10]) (by kernel_rfl) (by simp) ?_
      refine AllReadyH.cons rfl (fun K hK => ?_) AllReadyH.nil
      go_simp
      refine (Hid.out cJ _ _ hsv ‹_›).mono ?_; rintro e w' ⟨rfl, hb9⟩; clear hsv
      try go_wp2_with fail
      refine hK.out _ _ (keep2 (Hid.out hw5) (by assumption) hb9) (fun hHeld => ?_)
      clear hK K
      try simp only [Act.put, List.setIfInBounds_toArray, List.set_cons_zero, List.set_cons_succ]
      refine wpAnyH_take (i := 11) (oi := ⟨some 48, _, _, _, _, _⟩) (v := ?_) rfl (by kernel_rfl) (by kernel_rfl) (by kernel_rfl) (fun _ _ _ h => h) (Or.inl ⟨by rfl, ?_⟩) (by assumption) ?_
      rotate_left
      · intro w hSw; (try dsimp only at hSw); go_simp <;> with_reducible rfl
      try simp only [Act.put, List.setIfInBounds_toArray, List.set_cons_zero, List.set_cons_succ]
      refine wpAnyH_take (i := 12) (oi := ⟨some 49, _, _, _, _, _⟩) (v := ?_) rfl (by kernel_rfl) (by kernel_rfl) (by kernel_rfl) (fun _ _ _ h => h) (Or.inl ⟨by rfl, ?_⟩) (by assumption) ?_
      rotate_left
      · intro w hSw; (try dsimp only at hSw); go_simp <;> with_reducible rfl
      try simp only [Act.put, List.setIfInBounds_toArray, List.set_cons_zero, List.set_cons_succ]
      refine wpAnyH_take (i := 13) (oi := ⟨some 50, _, _, _, _, _⟩) (v := ?_) rfl (by kernel_rfl) (by kernel_rfl) (by kernel_rfl) (fun _ _ _ h => h) (Or.inl ⟨by rfl, ?_⟩) (by assumption) ?_
      rotate_left
      · intro w hSw; (try dsimp only at hSw); go_simp <;> with_reducible rfl
      try simp only [Act.put, List.setIfInBounds_toArray, List.set_cons_zero, List.set_cons_succ]
      refine wpAnyH_take (i := 14) (oi := ⟨some 51, _, _, _, _, _⟩) (v := ?_) rfl (by kernel_rfl) (by kernel_rfl) (by kernel_rfl) (fun _ _ _ h => h) (Or.inl ⟨by rfl, ?_⟩) (by assumption) ?_
      rotate_left
      · intro w hSw; (try dsimp only at hSw); go_simp <;> with_reducible rfl
      try simp only [Act.put, List.setIfInBounds_toArray, List.set_cons_zero, List.set_cons_succ]
      refine wpAnyH_take (i := 15) (oi := ⟨some 52, _, _, _, _, _⟩) (v := ?_) rfl (by kernel_rfl) (by kernel_rfl) (by kernel_rfl) (fun _ _ _ h => h) (Or.inl ⟨by rfl, ?_⟩) (by assumption) ?_
      rotate_left
      · intro w hSw; (try dsimp only at hSw); go_simp <;> with_reducible rfl
      try simp only [Act.put, List.setIfInBounds_toArray, List.set_cons_zero, List.set_cons_succ]
      refine wpAnyH_take (i := 16) (oi := ⟨some 53, _, _, _, _, _⟩) (v := ?_) rfl (by kernel_rfl) (by kernel_rfl) (by kernel_rfl) (fun _ _ _ h => h) (Or.inl ⟨by rfl, ?_⟩) (by assumption) ?_
      rotate_left
      · intro w hSw; (try dsimp only at hSw); go_simp <;> with_reducible rfl
      try simp only [Act.put, List.setIfInBounds_toArray, List.set_cons_zero, List.set_cons_succ]
      refine wpAnyH_take (i := 17) (oi := ⟨some 54, _, _, _, _, _⟩) (v := ?_) rfl (by kernel_rfl) (by kernel_rfl) (by kernel_rfl) (fun _ _ _ h => h) (Or.inl ⟨by rfl, ?_⟩) (by assumption) ?_
      rotate_left
      · intro w hSw; (try dsimp only at hSw); go_simp <;> with_reducible rfl
      try simp only [Act.put, List.setIfInBounds_toArray, List.set_cons_zero, List.set_cons_succ]
      refine wpAnyH_take (i := 18) (oi := ⟨some 55, _, _, _, _, _⟩) (v := ?_) rfl (by kernel_rfl) (by kernel_rfl) (by kernel_rfl) (fun _ _ _ h => h) (Or.inl ⟨by rfl, ?_⟩) (by assumption) ?_
      rotate_left
      · intro w hSw; (try dsimp only at hSw); go_simp <;> with_reducible rfl
      try simp only [Act.put, List.setIfInBounds_toArray, List.set_cons_zero, List.set_cons_succ]
      refine wpAnyH_take (i := 19) (oi := ⟨some 56, _, _, _, _, _⟩) (v := ?_) rfl (by kernel_rfl) (by kernel_rfl) (by kernel_rfl) (fun _ _ _ h => h) (Or.inl ⟨by rfl, ?_⟩) (by assumption) ?_
      rotate_left
      · intro w hSw; (try dsimp only at hSw); go_simp <;> with_reducible rfl
      try simp only [Act.put, List.setIfInBounds_toArray, List.set_cons_zero, List.set_cons_succ]
      refine wpAnyH_take (i := 20) (oi := ⟨some 57, _, _, _, _, _⟩) (v := ?_) rfl (by kernel_rfl) (by kernel_rfl) (by kernel_rfl) (fun _ _ _ h => h) (Or.inl ⟨by rfl, ?_⟩) (by assumption) ?_
      rotate_left
      · intro w hSw; (try dsimp only at hSw); go_simp <;> with_reducible rfl
      try simp only [Act.put, List.setIfInBounds_toArray, List.set_cons_zero, List.set_cons_succ]
      refine wpAnyH_take (i := 21) (oi := ⟨some 58, _, _, _, _, _⟩) (v := ?_) rfl (by kernel_rfl) (by kernel_rfl) (by kernel_rfl) (fun _ _ _ h => h) (Or.inl ⟨by rfl, ?_⟩) (by assumption) ?_
      rotate_left
      · intro w hSw; (try dsimp only at hSw); go_simp <;> with_reducible rfl
      try simp only [Act.put, List.setIfInBounds_toArray, List.set_cons_zero, List.set_cons_succ]
      refine wpAnyH_take (i := 22) (oi := ⟨some 59, _, _, _, _, _⟩) (v := ?_) rfl (by kernel_rfl) (by kernel_rfl) (by kernel_rfl) (fun _ _ _ h => h) (Or.inl ⟨by rfl, ?_⟩) (by assumption) ?_
      rotate_left
      · intro w hSw; (try dsimp only at hSw); go_simp <;> with_reducible rfl
      try simp only [Act.put, List.setIfInBounds_toArray, List.set_cons_zero, List.set_cons_succ]
      refine wpAnyH_take (i := 23) (oi := ⟨some 60, _, _, _, _, _⟩) (v := ?_) rfl (by kernel_rfl) (by kernel_rfl) (by kernel_rfl) (fun _ _ _ h => h) (Or.inl ⟨by rfl, ?_⟩) (by assumption) ?_
      rotate_left
      · intro w hSw; (try dsimp only at hSw); go_simp <;> with_reducible rfl
      try simp only [Act.put, List.setIfInBounds_toArray, List.set_cons_zero, List.set_cons_succ]
      refine wpAnyH_take (i := 24) (oi := ⟨some 61, _, _, _, _, _⟩) (v := ?_) rfl (by kernel_rfl) (by kernel_rfl) (by kernel_rfl) (fun _ _ _ h => h) (Or.inl ⟨by rfl, ?_⟩) (by assumption) ?_
      rotate_left
      · intro w hSw; (try dsimp only at hSw); go_simp <;> with_reducible rfl
      try simp only [Act.put, List.setIfInBounds_toArray, List.set_cons_zero, List.set_cons_succ]
      refine wpAnyH_take (i := 25) (oi := ⟨some 62, _, _, _, _, _⟩) (v := ?_) rfl (by kernel_rfl) (by kernel_rfl) (by kernel_rfl) (fun _ _ _ h => h) (Or.inl ⟨by rfl, ?_⟩) (by assumption) ?_
      rotate_left
      · intro w hSw; (try dsimp only at hSw); go_simp <;> with_reducible rfl
      try simp only [Act.put, List.setIfInBounds_toArray, List.set_cons_zero, List.set_cons_succ]
      refine wpAnyH_take (i := 26) (oi := ⟨some 63, _, _, _, _, _⟩) rfl (by kernel_rfl) (by kernel_rfl) (by kernel_rfl) (fun _ _ _ h => h) (Or.inr ⟨by rfl, rfl⟩) (by assumption) ?_
      try simp only [Act.put, List.setIfInBounds_toArray, List.set_cons_zero, List.set_cons_succ]
      refine wpAnyH_take (i := 27) (oi := ⟨some 64, _, _, _, _, _⟩) rfl (by kernel_rfl) (by kernel_rfl) (by kernel_rfl) (fun _ _ _ h => h) (Or.inr ⟨by rfl, rfl⟩) (by assumption) ?_
      try simp only [Act.put, List.setIfInBounds_toArray, List.set_cons_zero, List.set_cons_succ]
      refine wpAnyH_take (i := 28) (oi := ⟨some 65, _, _, _, _, _⟩) (v := ?_) rfl (by kernel_rfl) (by kernel_rfl) (by kernel_rfl) (fun _ _ _ h => h) (Or.inl ⟨by rfl, ?_⟩) (by assumption) ?_
      rotate_left
      · intro w hSw; (try dsimp only at hSw); go_simp <;> with_reducible rfl
      try simp only [Act.put, List.setIfInBounds_toArray, List.set_cons_zero, List.set_cons_succ]
      refine wpAnyH_take (i := 29) (oi := ⟨some 66, _, _, _, _, _⟩) (v := ?_) rfl (by kernel_rfl) (by kernel_rfl) (by kernel_rfl) (fun _ _ _ h => h) (Or.inl ⟨by rfl, ?_⟩) (by assumption) ?_
      rotate_left
      · intro w hSw; (try dsimp only at hSw); go_simp <;> with_reducible rfl
      try simp only [Act.put, List.setIfInBounds_toArray, List.set_cons_zero, List.set_cons_succ]
      refine wpAnyH_take (i := 30) (oi := ⟨some 67, _, _, _, _, _⟩) (v := ?_) rfl (by kernel_rfl) (by kernel_rfl) (by kernel_rfl) (fun _ _ _ h => h) (Or.inl ⟨by rfl, ?_⟩) (by assumption) ?_
      rotate_left
      · intro w hSw; (try dsimp only at hSw); go_simp <;> with_reducible rfl
      try simp only [Act.put, List.setIfInBounds_toArray, List.set_cons_zero, List.set_cons_succ]
      refine wpAnyH_take (i := 31) (oi := ⟨some 68, _, _, _, _, _⟩) (v := ?_) rfl (by kernel_rfl) (by kernel_rfl) (by kernel_rfl) (fun _ _ _ h => h) (Or.inl ⟨by rfl, ?_⟩) (by assumption) ?_
      rotate_left
      · intro w hSw; (try dsimp only at hSw); go_simp <;> with_reducible rfl
      try simp only [Act.put, List.setIfInBounds_toArray, List.set_cons_zero, List.set_cons_succ]
      refine wpAnyH_take (i := 33) (oi := ⟨some 70, _, _, _, _, _⟩) (v := ?_) rfl (by kernel_rfl) (by kernel_rfl) (by kernel_rfl) (fun _ _ _ h => h) (Or.inl ⟨by rfl, ?_⟩) (by assumption) ?_
      rotate_left
      · intro w hSw; (try dsimp only at hSw); go_simp <;> with_reducible rfl
      try simp only [Act.put, List.setIfInBounds_toArray, List.set_cons_zero, List.set_cons_succ]
      refine wpAnyH_ready (rs := [32]) (by kernel_rfl) (by simp) ?_
      refine AllReadyH.cons rfl (fun K hK => ?_) AllReadyH.nil
      go_simp
      refine (Hid.out cLo _).mono ?_; rintro e w' ⟨rfl, hb9⟩
      try go_wp2_with fail
      refine hK.out _ _ (keep2 (Hid.out hw5) (by assumption) hb9) (fun hHeld => ?_)
      clear hK K
      try simp only [Act.put, List.setIfInBounds_toArray, List.set_cons_zero, List.set_cons_succ]
      refine wpAnyH_ready (rs := [34]) (by kernel_rfl) (by simp) ?_
      refine AllReadyH.cons rfl (fun K hK => ?_) AllReadyH.nil
      go_simp
      refine (Hid.out cRo _).mono ?_; rintro e w' ⟨rfl, hb9⟩
      try go_wp2_with fail
      refine hK.out _ _ (keep2 (Hid.out hw5) (by assumption) hb9) (fun hHeld => ?_)
      clear hK K
      try simp only [Act.put, List.setIfInBounds_toArray, List.set_cons_zero, List.set_cons_succ]
      refine wpAnyH_take (i := 35) (oi := ⟨some 72, _, _, _, _, _⟩) (v := ?_) rfl (by kernel_rfl) (by kernel_rfl) (by kernel_rfl) (fun _ _ _ h => h) (Or.inl ⟨by rfl, ?_⟩) (by assumption) ?_
      rotate_left
      · intro w hSw; (try dsimp only at hSw); go_simp <;> with_reducible rfl
      try simp only [Act.put, List.setIfInBounds_toArray, List.set_cons_zero, List.set_cons_succ]
      refine wpAnyH_take (i := 36) (oi := ⟨some 73, _, _, _, _, _⟩) (v := ?_) rfl (by kernel_rfl) (by kernel_rfl) (by kernel_rfl) (fun _ _ _ h => h) (Or.inl ⟨by rfl, ?_⟩) (by assumption) ?_
      rotate_left
      · intro w hSw; (try dsimp only at hSw); go_simp <;> with_reducible rfl
      try simp only [Act.put, List.setIfInBounds_toArray, List.set_cons_zero, List.set_cons_succ]
      refine wpAnyH_take (i := 37) (oi := ⟨some 74, _, _, _, _, _⟩) (v := ?_) rfl (by kernel_rfl) (by kernel_rfl) (by kernel_rfl) (fun _ _ _ h => h) (Or.inl ⟨by rfl, ?_⟩) (by assumption) ?_
      rotate_left
      · intro w hSw; (try dsimp only at hSw); go_simp <;> with_reducible rfl
      try simp only [Act.put, List.setIfInBounds_toArray, List.set_cons_zero, List.set_cons_succ]
      refine wpAnyH_take (i := 38) (oi := ⟨some 75, _, _, _, _, _⟩) (v := ?_) rfl (by kernel_rfl) (by kernel_rfl) (by kernel_rfl) (fun _ _ _ h => h) (Or.inl ⟨by rfl, ?_⟩) (by assumption) ?_
      rotate_left
      · intro w hSw; (try dsimp only at hSw); go_simp <;> with_reducible rfl
      try simp only [Act.put, List.setIfInBounds_toArray, List.set_cons_zero, List.set_cons_succ]
      refine wpAnyH_take (i := 40) (oi := ⟨some 77, _, _, _, _, _⟩) (v := ?_) rfl (by kernel_rfl) (by kernel_rfl) (by kernel_rfl) (fun _ _ _ h => h) (Or.inl ⟨by rfl, ?_⟩) (by assumption) ?_
      rotate_left
      · intro w hSw; (try dsimp only at hSw); go_simp <;> with_reducible rfl
      try simp only [Act.put, List.setIfInBounds_toArray, List.set_cons_zero, List.set_cons_succ]
      refine wpAnyH_ready (rs := [39]) (by kernel_rfl) (by simp) ?_
      refine AllReadyH.cons rfl (fun K hK => ?_) AllReadyH.nil
      go_simp
      refine (Hid.out cLe _).mono ?_; rintro e w' ⟨rfl, hb9⟩
      try go_wp2_with fail
      refine hK.out _ _ (keep2 (Hid.out hw5) (by assumption) hb9) (fun hHeld => ?_)
      clear hK K
      try simp only [Act.put, List.setIfInBounds_toArray, List.set_cons_zero, List.set_cons_succ]
      refine wpAnyH_ready (rs := [41]) (by kernel_rfl) (by simp) ?_
      refine AllReadyH.cons rfl (fun K hK => ?_) AllReadyH.nil
      go_simp
      refine (Hid.out cRe _).mono ?_; rintro e w' ⟨rfl, hb9⟩
      try go_wp2_with fail
      refine hK.out _ _ (keep2 (Hid.out hw5) (by assumption) hb9) (fun hHeld => ?_)
      clear hK K
      try simp only [Act.put, List.setIfInBounds_toArray, List.set_cons_zero, List.set_cons_succ]
      refine wpAnyH_take (i := 42) (oi := ⟨some 79, _, _, _, _, _⟩) (v := ?_) rfl (by kernel_rfl) (by kernel_rfl) (by kernel_rfl) (fun _ _ _ h => h) (Or.inl ⟨by rfl, ?_⟩) (by assumption) ?_
      rotate_left
      · intro w hSw; (try dsimp only at hSw); go_simp <;> with_reducible rfl
      try simp only [Act.put, List.setIfInBounds_toArray, List.set_cons_zero, List.set_cons_succ]
      refine wpAnyH_take (i := 43) (oi := ⟨some 80, _, _, _, _, _⟩) (v := ?_) rfl (by kernel_rfl) (by kernel_rfl) (by kernel_rfl) (fun _ _ _ h => h) (Or.inl ⟨by rfl, ?_⟩) (by assumption) ?_
      rotate_left
      · intro w hSw; (try dsimp only at hSw); go_simp <;> with_reducible rfl
      try simp only [Act.put, List.setIfInBounds_toArray, List.set_cons_zero, List.set_cons_succ]
      refine wpAnyH_take (i := 44) (oi := ⟨some 81, _, _, _, _, _⟩) (v := ?_) rfl (by kernel_rfl) (by kernel_rfl) (by kernel_rfl) (fun _ _ _ h => h) (Or.inl ⟨by rfl, ?_⟩) (by assumption) ?_
      rotate_left
      · intro w hSw; (try dsimp only at hSw); go_simp <;> with_reducible rfl
      try simp only [Act.put, List.setIfInBounds_toArray, List.set_cons_zero, List.set_cons_succ]
      refine wpAnyH_take (i := 45) (oi := ⟨some 82, _, _, _, _, _⟩) (v := ?_) rfl (by kernel_rfl) (by kernel_rfl) (by kernel_rfl) (fun _ _ _ h => h) (Or.inl ⟨by rfl, ?_⟩) (by assumption) ?_
      rotate_left
      · intro w hSw; (try dsimp only at hSw); go_simp <;> with_reducible rfl
      try simp only [Act.put, List.setIfInBounds_toArray, List.set_cons_zero, List.set_cons_succ]
      refine wpAnyH_take (i := 46) (oi := ⟨some 83, _, _, _, _, _⟩) (v := ?_) rfl (by kernel_rfl) (by kernel_rfl) (by kernel_rfl) (fun _ _ _ h => h) (Or.inl ⟨by rfl, ?_⟩) (by assumption) ?_
      rotate_left
      · intro w hSw; (try dsimp only at hSw); go_simp <;> with_reducible rfl
      try simp only [Act.put, List.setIfInBounds_toArray, List.set_cons_zero, List.set_cons_succ]
      refine wpAnyH_ready (rs := [47]) (by kernel_rfl) (by simp) ?_
      refine AllReadyH.cons rfl (fun K hK => ?_) AllReadyH.nil
      go_simp
      refine (Hid.out cI _ ‹_›).mono ?_; rintro e w' ⟨rfl, hb9⟩
      try go_wp2_with fail
      refine hK.out _ _ (keep2 (Hid.out hw5) (by assumption) hb9) (fun hHeld => ?_)
      clear hK K
      try simp only [Act.put, List.setIfInBounds_toArray, List.set_cons_zero, List.set_cons_succ]
      refine wpAnyH_take (i := 48) (oi := ⟨some 85, _, _, _, _, _⟩) (v := ?_) rfl (by kernel_rfl) (by kernel_rfl) (by kernel_rfl) (fun _ _ _ h => h) (Or.inl ⟨by rfl, ?_⟩) (by assumption) ?_
      rotate_left
      · intro w hSw; (try dsimp only at hSw); go_simp <;> with_reducible rfl
      try simp only [Act.put, List.setIfInBounds_toArray, List.set_cons_zero, List.set_cons_succ]
      refine wpAnyH_take (i := 49) (oi := ⟨some 86, _, _, _, _, _⟩) (v := ?_) rfl (by kernel_rfl) (by kernel_rfl) (by kernel_rfl) (fun _ _ _ h => h) (Or.inl ⟨by rfl, ?_⟩) (by assumption) ?_
      rotate_left
      · intro w hSw; (try dsimp only at hSw); go_simp <;> with_reducible rfl
      try simp only [Act.put, List.setIfInBounds_toArray, List.set_cons_zero, List.set_cons_succ]
      refine wpAnyH_ready (rs := [50]) (by kernel_rfl) (by simp) ?_
      refine AllReadyH.cons rfl (fun K hK => ?_) AllReadyH.nil
      go_simp
      refine (Hid.out cW _ ‹_›).mono ?_; rintro e w' ⟨rfl, hb9⟩
      try go_wp2_with fail
      refine hK.out _ _ (keep2 (Hid.out hw5) (by assumption) hb9) (fun hHeld => ?_)
      clear hK K
      try simp only [Act.put, List.setIfInBounds_toArray, List.set_cons_zero, List.set_cons_succ]
      refine wpAnyH_take (i := 51) (oi := ⟨some 88, _, _, _, _, _⟩) (v := ?_) rfl (by kernel_rfl) (by kernel_rfl) (by kernel_rfl) (fun _ _ _ h => h) (Or.inl ⟨by rfl, ?_⟩) (by assumption) ?_
      rotate_left
      · intro w hSw; (try dsimp only at hSw); go_simp <;> with_reducible rfl
      try simp only [Act.put, List.setIfInBounds_toArray, List.set_cons_zero, List.set_cons_succ]
      refine wpAnyH_take (i := 52) (oi := ⟨some 6, _, _, _, _, _⟩) (v := ?_) rfl (by kernel_rfl) (by kernel_rfl) (by kernel_rfl) (fun _ _ _ h => h) (Or.inl ⟨by rfl, ?_⟩) (by assumption) ?_
      rotate_left
      · intro w hSw; (try dsimp only at hSw); go_simp <;> with_reducible rfl
      try simp only [Act.put, List.setIfInBounds_toArray, List.set_cons_zero, List.set_cons_succ]
      refine wpAnyH_done (by kernel_rfl) ?_ _
      go_wp2
      go_ret
      exact ⟨rfl, Hid.out fin _ ‹_›⟩
    · go_upto_region 7 with (fail)
      go_region_held3 (fun W => W.cell? ⟨b, 0, none⟩ = some (Value.slice q1 (sgn s.data.toList).length q2) ∧ W.cell? ⟨b, 1, none⟩ = some (Value.bool d) ∧ Below w5.heap.size w5 W) (first | exact keep2 (Hid.out hw5) (by assumption) hb9 | exact Hid.out st) (first
        | (go_at_call 16; refine (Hid.out cV _ ‹_›).mono ?_; rintro e w' ⟨rfl, hb9⟩)
        | (go_at_call 15; refine (Hid.out cS _ ‹_›).mono ?_; rintro e w' ⟨vs, rfl, hsv, hb9⟩)
        | (go_at_call 21; refine (Hid.out cJ _ _ hsv ‹_›).mono ?_; rintro e w' ⟨rfl, hb9⟩; clear hsv)
        | (go_at_call 21; refine (Hid.out cI _ ‹_›).mono ?_; rintro e w' ⟨rfl, hb9⟩)
        | (go_at_call 22; refine (Hid.out cLo _).mono ?_; rintro e w' ⟨rfl, hb9⟩)
        | (go_at_call 23; refine (Hid.out cRo _).mono ?_; rintro e w' ⟨rfl, hb9⟩)
        | (go_at_call 24; refine (Hid.out cLe _).mono ?_; rintro e w' ⟨rfl, hb9⟩)
        | (go_at_call 25; refine (Hid.out cRe _).mono ?_; rintro e w' ⟨rfl, hb9⟩)
        | (go_at_call 17; refine (Hid.out cW _ ‹_›).mono ?_; rintro e w' ⟨rfl, hb9⟩))
      go_wp2
      go_ret
      exact ⟨rfl, Hid.out fin _ ‹_›⟩
  · have c5 := wakes9 w hT
    have h0' : 2000 < (s.size : Int) ∨ (s.size : Int) ≤ 2000 ∧ 1000 < (l.length : Int) := by omega
    clear hl hr hT h0
    rcases h0' with q1 | ⟨q1, q2⟩
    all_goals
      go_enter Tryd.func6, Tryd.ntmps6
      go_wp2_with (fail)
      refine c5.mono ?_
      rintro e w' ⟨rfl, hB⟩
      go_wp2
      go_ret
      exact ⟨rfl, hB⟩
end Go.Proofs.YtncohgkpdfmdgaaDoor
