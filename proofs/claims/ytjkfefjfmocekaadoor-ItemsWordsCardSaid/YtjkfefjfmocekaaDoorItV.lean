/- The walk of ItemsWords. -/
import Derived.Test.YtjkfefjfmocekaaDoorItQ
import Derived.Test.YtjkfefjfmocekaaDoorItW
import Derived.Test.YtjkfefjfmocekaaDoorApp
import Derived.Deep.DeepCutAuto
import Derived.Deep.CutBlock
namespace Go.Proofs.YtjkfefjfmocekaaDoor
open Go.RowKit Go.Shelf
attribute [local go_sem] Oper.semAt_some

theorem owns_off2 {W : World} {base : Nat} {e : TypeId} {size : Nat} {v : Value} {n : Nat} {xs : List Value} (h : W.ownsRow base e size v n xs) {b i : Nat} (hp : b < base) (u : Value) : (W.setCell ⟨b, i, none⟩ u).ownsRow base e size v n xs := by
  obtain ⟨h1, h2⟩ := h
  refine ⟨h1, h2.imp id ?_⟩
  rintro ⟨g, cap, cur, hv, hg, hh, r⟩
  exact ⟨g, cap, cur, hv, hg, (setCell_off (by omega)).trans hh, r⟩

set_option maxRecDepth 100000 in
set_option maxHeartbeats 8000000 in
theorem ItemsWords_any (sa sb : ByteArray) (a b c d ind : Int) (w : World) (hT : Tabs w) (hR : Asp w) :
    Calls Tryd.prog 4 #[.string sa, .string sb, .agg #[.int .i64 a, .int .i64 b, .int .i64 c, .int .i64 d, .int .i64 ind]] w fun e w' => e = .returned (.bool true) ∧ Below w.heap.size w w' := by
  obtain ⟨W1, hW1⟩ : ∃ W, w.alloc (.cells #[.int .i64 a, .int .i64 b, .int .i64 c, .int .i64 d, .int .i64 ind] 26) = W := ⟨_, rfl⟩
  have hB1 : Below w.heap.size w W1 := by rw [← hW1]; exact (Below.refl w.heap.size w).alloc (Nat.le_refl _) _
  have hz1 : W1.heap.size = w.heap.size + 1 := by rw [← hW1]; simp
  have q1 : W1.heap[w.heap.size]? = some (.cells #[.int .i64 a, .int .i64 b, .int .i64 c, .int .i64 d, .int .i64 ind] 26 (0, 0)) := by rw [← hW1]; exact World.alloc_heap_new w _
  have hWk := wakes14 W1 (hT.below hB1) (hR.below hB1)
  replace hT := hid hT
  replace hR := hid hR
  replace hWk := hid hWk
  by_cases la : (200 : Int) < sa.size
  · go_enter Tryd.func4, Tryd.ntmps4
    go_wp2_with (fail)
    refine hWk.out.mono ?_
    rintro e w' ⟨rfl, bw⟩
    go_wp2_with (fail)
    go_ret
    exact ⟨rfl, hB1.trans (bw.mono hB1.size)⟩
  by_cases lb : (200 : Int) < sb.size
  · go_enter Tryd.func4, Tryd.ntmps4
    go_wp2_with (fail)
    refine hWk.out.mono ?_
    rintro e w' ⟨rfl, bw⟩
    go_wp2_with (fail)
    go_ret
    exact ⟨rfl, hB1.trans (bw.mono hB1.size)⟩
  have kA := hid (fun W (h : Below w.heap.size w W) => Word_any sa a b c d ind W (by omega) (hT.out.below h) (hR.out.below h))
  have kB := hid (fun W (h : Below w.heap.size w W) => Word_any sb a b c d ind W (by omega) (hT.out.below h) (hR.out.below h))
  have nA := wordI_len d sa
  have nB := wordI_len d sb
  have pA := word_pens d sa
  have cA := word_cat d sa
  have tA := pcIts_textOf d (pcsL sa)
  have uA := word_text d sa
  change ∀ x ∈ wordI d sa, textOf x = x.text.data.toList at tA
  have kO1 := hid (fun W v (h : Below w.heap.size w W) (hs : Sl W 1 encS v [sa, sb]) => Of_any 1 v [sa, sb] a b c d 0 W (show 2 ≤ 300 by decide) (fun s hs => by simp at hs; rcases hs with rfl | rfl <;> omega) hs (hT.out.below h) (hR.out.below h))
  have kO3 := hid (fun W v (h : Below w.heap.size w W) (hs : Sl W 1 encS v [sa, sb]) => Of_any 3 v [sa, sb] a b c d 0 W (show 2 ≤ 300 by decide) (fun s hs => by simp at hs; rcases hs with rfl | rfl <;> omega) hs (hT.out.below h) (hR.out.below h))
  simp only [items_two] at kO1
  simp only [items_two3] at kO3
  have hsA := catS_size (wordI d sa) tA
  rw [uA, size_toList] at hsA
  generalize wordI d sa = X at *
  generalize wordI d sb = Y at *
  obtain ⟨L, hL⟩ : ∃ L, X ++ [spaceT] ++ Y = L := ⟨_, rfl⟩
  have hLl : L.length = X.length + 1 + Y.length := by rw [← hL]; simp; omega
  simp only [hL] at kO1 kO3
  obtain ⟨M, hM⟩ : ∃ M, [boxT ⟨#[42]⟩, tieT] ++ L = M := ⟨_, rfl⟩
  have hMl : M.length = L.length + 2 := by rw [← hM]; simp
  have hMx : ∀ i, M[i + 2]? = L[i]? := fun i => by rw [← hM]; simp
  simp only [hM] at kO3
  clear hM
  replace hL := hid hL
  replace hLl := hid hLl
  replace hMl := hid hMl
  have z0 := cell_blk q1 (i := 0) rfl
  have z1 := cell_blk q1 (i := 1) rfl
  have z2 := cell_blk q1 (i := 2) rfl
  have z3 := cell_blk q1 (i := 3) rfl
  have z4 := cell_blk q1 (i := 4) rfl
  replace hsA := hid hsA
  replace cA := hid cA
  clear hWk tA uA
  go_enter Tryd.func4, Tryd.ntmps4
  go_upto_region 3 with (fail)
  have hzw : w.heap.size < W1.heap.size := by omega
  go_cut [7, 8] (fun x y wx => ∃ px cx py cy, x = .slice px X.length cx ∧ y = .slice py Y.length cy ∧ wx.ownsRow (w.heap.size + 1) 34 6 (.slice px X.length cx) X.length (X.flatMap encIt) ∧ wx.ownsRow (w.heap.size + 1) 34 6 (.slice py Y.length cy) Y.length (Y.flatMap encIt) ∧ Below w.heap.size w wx ∧ wx.heap[w.heap.size]? = some (.cells #[.int .i64 a, .int .i64 b, .int .i64 c, .int .i64 d, .int .i64 ind] 26 (0, 0)))
  case first => as_aux_lemma =>
    -- region 3
    refine wp_region_any (by kernel_rfl) ?_
    try (change wpAny _ _ _ _ _ _ _ (World.drew _))
    refine wpAny_take (i := 0) (oi := ⟨some 24, _, _, _, _, _⟩) (v := ?_) rfl (by kernel_rfl) (by kernel_rfl) (by kernel_rfl) (fun _ _ _ h => h) (Or.inl ⟨by rfl, ?_⟩) ?_
    rotate_left
    · intro w; go_simp <;> with_reducible rfl
    simp only [Act.put, List.setIfInBounds_toArray, List.set_cons_zero, List.set_cons_succ]
    refine wpAny_take (i := 3) (oi := ⟨some 27, _, _, _, _, _⟩) (v := ?_) rfl (by kernel_rfl) (by kernel_rfl) (by kernel_rfl) (fun _ _ _ h => h) (Or.inl ⟨by rfl, ?_⟩) ?_
    rotate_left
    · intro w; go_simp <;> with_reducible rfl
    simp only [Act.put, List.setIfInBounds_toArray, List.set_cons_zero, List.set_cons_succ]
    refine wpAny_ready (rs := [1, 4]) (by kernel_rfl) (by simp) ?_
    refine AllReady.cons rfl (fun K hK => ?_) ?_
    · go_simp
      first | refine hK _ _ ?_ | refine ⟨trivial, hK _ _ ?_⟩ | refine ⟨fun _ _ => trivial, hK _ _ ?_⟩
      clear hK K
      refine wpAny_ready (rs := [2, 4]) (by kernel_rfl) (by simp) ?_
      refine AllReady.cons rfl (fun K hK => ?_) ?_
      · go_simp
        refine (kA.out _ (Below_dr hB1)).mono ?_
        rintro e w2 ⟨v1, rfl, o1, b2⟩
        have q2 := (b2.block w.heap.size (by show w.heap.size < W1.heap.size; omega)).trans (show W1.drew.heap[w.heap.size]? = _ from q1)
        have hzb : w.heap.size < w2.heap.size := Nat.lt_of_lt_of_le (by show w.heap.size < W1.heap.size; omega) b2.size
        have B2 := (Below_dr hB1).trans (b2.mono (by show w.heap.size ≤ W1.heap.size; omega))
        have y0 := cell_blk q2 (i := 0) rfl
        have y1 := cell_blk q2 (i := 1) rfl
        have y2 := cell_blk q2 (i := 2) rfl
        have y3 := cell_blk q2 (i := 3) rfl
        have y4 := cell_blk q2 (i := 4) rfl
        first | refine hK _ _ ?_ | refine ⟨trivial, hK _ _ ?_⟩ | refine ⟨fun _ _ => trivial, hK _ _ ?_⟩
        clear hK K
        refine wpAny_ready (rs := [4]) (by kernel_rfl) (by simp) ?_
        refine AllReady.cons rfl (fun K hK => ?_) AllReady.nil
        go_simp
        first | refine hK _ _ ?_ | refine ⟨trivial, hK _ _ ?_⟩ | refine ⟨fun _ _ => trivial, hK _ _ ?_⟩
        clear hK K
        refine wpAny_ready (rs := [5]) (by kernel_rfl) (by simp) ?_
        refine AllReady.cons rfl (fun K hK => ?_) AllReady.nil
        go_simp
        refine (kB.out _ B2).mono ?_
        rintro e w3 ⟨v2, rfl, o2, b3⟩
        have q3 := (b3.block w.heap.size (by omega)).trans q2
        have B3 := B2.trans (b3.mono B2.size)
        first | refine hK _ _ ?_ | refine ⟨trivial, hK _ _ ?_⟩ | refine ⟨fun _ _ => trivial, hK _ _ ?_⟩
        clear hK K
        refine wpAny_take (i := 6) (oi := ⟨some 7, _, _, _, _, _⟩) (v := ?_) rfl (by kernel_rfl) (by kernel_rfl) (by kernel_rfl) (fun _ _ _ h => h) (Or.inl ⟨by rfl, ?_⟩) ?_
        rotate_left
        · intro w; go_simp <;> with_reducible rfl
        simp only [Act.put, List.setIfInBounds_toArray, List.set_cons_zero, List.set_cons_succ]
        refine wpAny_take (i := 7) (oi := ⟨some 8, _, _, _, _, _⟩) (v := ?_) rfl (by kernel_rfl) (by kernel_rfl) (by kernel_rfl) (fun _ _ _ h => h) (Or.inl ⟨by rfl, ?_⟩) ?_
        rotate_left
        · intro w; go_simp <;> with_reducible rfl
        simp only [Act.put, List.setIfInBounds_toArray, List.set_cons_zero, List.set_cons_succ]
        refine wpAny_done (by kernel_rfl) ?_ _
        go_wp2_with (fail)
        go_meet
        have s1 := owns_downM (b' := w.heap.size + 1) (by show w.heap.size + 1 ≤ W1.heap.size; omega) ((Kept.of_below b3 0).owns o1)
        have s2 := owns_downM (b' := w.heap.size + 1) (by omega) o2
        obtain ⟨p1, c1, rfl, -⟩ := owns_shape s1
        obtain ⟨p2, c2, rfl, -⟩ := owns_shape s2
        exact ⟨_, _, _, _, rfl, rfl, s1, s2, B3, q3⟩
      refine AllReady.cons rfl (fun K hK => ?_) AllReady.nil
      go_simp
      first | refine hK _ _ ?_ | refine ⟨trivial, hK _ _ ?_⟩ | refine ⟨fun _ _ => trivial, hK _ _ ?_⟩
      clear hK K
      refine wpAny_ready (rs := [2]) (by kernel_rfl) (by simp) ?_
      refine AllReady.cons rfl (fun K hK => ?_) AllReady.nil
      go_simp
      refine (kA.out _ (Below_dr hB1)).mono ?_
      rintro e w2 ⟨v1, rfl, o1, b2⟩
      have q2 := (b2.block w.heap.size (by show w.heap.size < W1.heap.size; omega)).trans (show W1.drew.heap[w.heap.size]? = _ from q1)
      have hzb : w.heap.size < w2.heap.size := Nat.lt_of_lt_of_le (by show w.heap.size < W1.heap.size; omega) b2.size
      have B2 := (Below_dr hB1).trans (b2.mono (by show w.heap.size ≤ W1.heap.size; omega))
      have y0 := cell_blk q2 (i := 0) rfl
      have y1 := cell_blk q2 (i := 1) rfl
      have y2 := cell_blk q2 (i := 2) rfl
      have y3 := cell_blk q2 (i := 3) rfl
      have y4 := cell_blk q2 (i := 4) rfl
      first | refine hK _ _ ?_ | refine ⟨trivial, hK _ _ ?_⟩ | refine ⟨fun _ _ => trivial, hK _ _ ?_⟩
      clear hK K
      refine wpAny_ready (rs := [5]) (by kernel_rfl) (by simp) ?_
      refine AllReady.cons rfl (fun K hK => ?_) AllReady.nil
      go_simp
      refine (kB.out _ B2).mono ?_
      rintro e w3 ⟨v2, rfl, o2, b3⟩
      have q3 := (b3.block w.heap.size (by omega)).trans q2
      have B3 := B2.trans (b3.mono B2.size)
      first | refine hK _ _ ?_ | refine ⟨trivial, hK _ _ ?_⟩ | refine ⟨fun _ _ => trivial, hK _ _ ?_⟩
      clear hK K
      refine wpAny_take (i := 6) (oi := ⟨some 7, _, _, _, _, _⟩) (v := ?_) rfl (by kernel_rfl) (by kernel_rfl) (by kernel_rfl) (fun _ _ _ h => h) (Or.inl ⟨by rfl, ?_⟩) ?_
      rotate_left
      · intro w; go_simp <;> with_reducible rfl
      simp only [Act.put, List.setIfInBounds_toArray, List.set_cons_zero, List.set_cons_succ]
      refine wpAny_take (i := 7) (oi := ⟨some 8, _, _, _, _, _⟩) (v := ?_) rfl (by kernel_rfl) (by kernel_rfl) (by kernel_rfl) (fun _ _ _ h => h) (Or.inl ⟨by rfl, ?_⟩) ?_
      rotate_left
      · intro w; go_simp <;> with_reducible rfl
      simp only [Act.put, List.setIfInBounds_toArray, List.set_cons_zero, List.set_cons_succ]
      refine wpAny_done (by kernel_rfl) ?_ _
      go_wp2_with (fail)
      go_meet
      have s1 := owns_downM (b' := w.heap.size + 1) (by show w.heap.size + 1 ≤ W1.heap.size; omega) ((Kept.of_below b3 0).owns o1)
      have s2 := owns_downM (b' := w.heap.size + 1) (by omega) o2
      obtain ⟨p1, c1, rfl, -⟩ := owns_shape s1
      obtain ⟨p2, c2, rfl, -⟩ := owns_shape s2
      exact ⟨_, _, _, _, rfl, rfl, s1, s2, B3, q3⟩
    refine AllReady.cons rfl (fun K hK => ?_) AllReady.nil
    go_simp
    first | refine hK _ _ ?_ | refine ⟨trivial, hK _ _ ?_⟩ | refine ⟨fun _ _ => trivial, hK _ _ ?_⟩
    clear hK K
    refine wpAny_ready (rs := [1]) (by kernel_rfl) (by simp) ?_
    refine AllReady.cons rfl (fun K hK => ?_) AllReady.nil
    go_simp
    first | refine hK _ _ ?_ | refine ⟨trivial, hK _ _ ?_⟩ | refine ⟨fun _ _ => trivial, hK _ _ ?_⟩
    clear hK K
    refine wpAny_ready (rs := [2]) (by kernel_rfl) (by simp) ?_
    refine AllReady.cons rfl (fun K hK => ?_) AllReady.nil
    go_simp
    refine (kA.out _ (Below_dr hB1)).mono ?_
    rintro e w2 ⟨v1, rfl, o1, b2⟩
    have q2 := (b2.block w.heap.size (by show w.heap.size < W1.heap.size; omega)).trans (show W1.drew.heap[w.heap.size]? = _ from q1)
    have hzb : w.heap.size < w2.heap.size := Nat.lt_of_lt_of_le (by show w.heap.size < W1.heap.size; omega) b2.size
    have B2 := (Below_dr hB1).trans (b2.mono (by show w.heap.size ≤ W1.heap.size; omega))
    have y0 := cell_blk q2 (i := 0) rfl
    have y1 := cell_blk q2 (i := 1) rfl
    have y2 := cell_blk q2 (i := 2) rfl
    have y3 := cell_blk q2 (i := 3) rfl
    have y4 := cell_blk q2 (i := 4) rfl
    first | refine hK _ _ ?_ | refine ⟨trivial, hK _ _ ?_⟩ | refine ⟨fun _ _ => trivial, hK _ _ ?_⟩
    clear hK K
    refine wpAny_ready (rs := [5]) (by kernel_rfl) (by simp) ?_
    refine AllReady.cons rfl (fun K hK => ?_) AllReady.nil
    go_simp
    refine (kB.out _ B2).mono ?_
    rintro e w3 ⟨v2, rfl, o2, b3⟩
    have q3 := (b3.block w.heap.size (by omega)).trans q2
    have B3 := B2.trans (b3.mono B2.size)
    first | refine hK _ _ ?_ | refine ⟨trivial, hK _ _ ?_⟩ | refine ⟨fun _ _ => trivial, hK _ _ ?_⟩
    clear hK K
    refine wpAny_take (i := 6) (oi := ⟨some 7, _, _, _, _, _⟩) (v := ?_) rfl (by kernel_rfl) (by kernel_rfl) (by kernel_rfl) (fun _ _ _ h => h) (Or.inl ⟨by rfl, ?_⟩) ?_
    rotate_left
    · intro w; go_simp <;> with_reducible rfl
    simp only [Act.put, List.setIfInBounds_toArray, List.set_cons_zero, List.set_cons_succ]
    refine wpAny_take (i := 7) (oi := ⟨some 8, _, _, _, _, _⟩) (v := ?_) rfl (by kernel_rfl) (by kernel_rfl) (by kernel_rfl) (fun _ _ _ h => h) (Or.inl ⟨by rfl, ?_⟩) ?_
    rotate_left
    · intro w; go_simp <;> with_reducible rfl
    simp only [Act.put, List.setIfInBounds_toArray, List.set_cons_zero, List.set_cons_succ]
    refine wpAny_done (by kernel_rfl) ?_ _
    go_wp2_with (fail)
    go_meet
    have s1 := owns_downM (b' := w.heap.size + 1) (by show w.heap.size + 1 ≤ W1.heap.size; omega) ((Kept.of_below b3 0).owns o1)
    have s2 := owns_downM (b' := w.heap.size + 1) (by omega) o2
    obtain ⟨p1, c1, rfl, -⟩ := owns_shape s1
    obtain ⟨p2, c2, rfl, -⟩ := owns_shape s2
    exact ⟨_, _, _, _, rfl, rfl, s1, s2, B3, q3⟩
    -- end 3
  case rest =>
    obtain ⟨px, cx, py, cy, rfl, rfl, oX, oY, hB2, q2⟩ := hcut
    have sX := sl_of_owns (enc := encIt) (fun _ _ => rfl) oX
    have hz2 := hB2.size
    have hN := penN_le X
    replace oX := hid oX
    replace pA := hid pA
    replace oY := hid oY
    replace q2 := hid q2
    clear z0 z1 z2 z3 z4 q1 hzw kA kB hW1
    go_wp2_with (fail)
    go_loopw [9, 10, 11] (fun t n i wr => ∃ k : Nat, k ≤ X.length ∧ i = .int .i64 k ∧ t = .string (catS X k) ∧ n = .int .i64 (penN (X.take k)) ∧ wr = wc) (fun _ _ i _ => X.length - (RowKit.intOf i).toNat)
    case atStart => exact ⟨0, Nat.zero_le _, rfl, rfl, rfl, rfl⟩
    case round =>
      obtain ⟨k, hk, rfl, rfl, rfl, hwr⟩ := hrel
      rw [hwr]
      clear hwr
      by_cases hkl : k < X.length
      · have hkI : (k : Int) < (X.length : Int) := by omega
        obtain ⟨nb, no, cap', he, h4, h5, h6⟩ := sX.open (by rintro rfl; simp at hkl)
        simp only [Value.slice.injEq] at he
        obtain ⟨rfl, -, rfl⟩ := he
        obtain ⟨x0, x1, x2, x3, x4, x5⟩ := it_cells (h6 k X[k] (List.getElem?_eq_getElem hkl))
        have hpn := penN_take hkl
        have hpl := penN_le (X.take k)
        rw [List.length_take] at hpl
        have hcs : catS X (k + 1) = catS X k ++ X[k].text := by
          rw [catS, List.getD_eq_getElem?_getD, List.getElem?_eq_getElem hkl]; rfl
        have hsz := hsA.out (k + 1) (by omega)
        rw [hcs, ByteArray.size_append] at hsz
        generalize penN (X.take k) = N at *
        generalize catS X k = S at *
        obtain ⟨Z, hZ⟩ : ∃ Z, X[k] = Z := ⟨_, rfl⟩
        rw [hZ] at x0 x5 hpn hcs hsz
        clear hZ x1 x2 x3 x4
        obtain ⟨kd, w1, y1, z1, c1, tx⟩ := Z
        dsimp only at x0 x5 hpn hcs hsz
        have hb1 : (S.size : Int) ≤ 200 := by omega
        have hb2 : (tx.size : Int) ≤ 200 := by omega
        replace hpn := hid hpn
        replace hcs := hid hcs
        clear h6 hsz
        by_cases h3 : kd = 3
        · subst h3
          go_wp2_with (fail)
          refine ⟨⟨k + 1, by omega, by go_num, by rw [hcs.out], by rw [hpn.out]; simp, trivial⟩, by simp [RowKit.intOf]; omega⟩
        · go_wp2_with (fail)
          refine ⟨⟨k + 1, by omega, by go_num, by rw [hcs.out], by rw [hpn.out]; simp [h3], trivial⟩, by simp [RowKit.intOf]; omega⟩
      · obtain rfl : k = X.length := by omega
        rw [List.take_length, cA.out]
        have hne : ((X.length : Int) != 2 * (penN X : Int) + 1) = false := by have := pA.out; simp; omega
        have y4 := cell_blk q2.out (i := 4) rfl
        have f4 := frozen_blk q2.out (i := 4)
        go_upto_region 14 with (fail)
        obtain ⟨W4, hW4⟩ : ∃ W, wc.setCell ⟨w.heap.size, 4, none⟩ (.int .i64 0) = W := ⟨_, rfl⟩
        rw [hW4]
        have q4 : W4.heap[w.heap.size]? = some (.cells #[.int .i64 a, .int .i64 b, .int .i64 c, .int .i64 d, .int .i64 0] 26 (0, 0)) := by rw [← hW4]; exact setCell_blk q2.out
        have hB4 : Below w.heap.size w W4 := by rw [← hW4]; exact hB2.setCell (p := ⟨w.heap.size, 4, none⟩) (Nat.le_refl _) _
        have pX : W4.ownsRow (w.heap.size + 1) 34 6 (.slice px X.length cx) X.length (X.flatMap encIt) := by rw [← hW4]; exact owns_off2 oX.out (Nat.lt_succ_self _) _
        have pY : W4.ownsRow (w.heap.size + 1) 34 6 (.slice py Y.length cy) Y.length (Y.flatMap encIt) := by rw [← hW4]; exact owns_off2 oY.out (Nat.lt_succ_self _) _
        have rX := sl_of_owns (enc := encIt) (fun _ _ => rfl) pX
        have rY := sl_of_owns (enc := encIt) (fun _ _ => rfl) pY
        have hz4 := hB4.size
        obtain ⟨W5, hW5⟩ : ∃ W, W4.alloc (.cells #[.string sa, .string sb] 9) = W := ⟨_, rfl⟩
        have hk5 : Kept 0 W4 W5 := by rw [← hW5]; exact Kept.alloc 0 _ _
        have hB5 : Below w.heap.size w W5 := by rw [← hW5]; exact hB4.alloc hz4 _
        have hs5 : Sl W5 1 encS (.slice (some ⟨W4.heap.size, 0, none⟩) 2 2) [sa, sb] := by rw [← hW5]; exact sl_texts W4 [sa, sb] (show 2 ≤ maxLen by decide)
        have q5 := hk5.same _ _ q4 (.inl rfl)
        have v0 := cell_blk q5 (i := 0) rfl
        have v1 := cell_blk q5 (i := 1) rfl
        have v2 := cell_blk q5 (i := 2) rfl
        have v3 := cell_blk q5 (i := 3) rfl
        have v4 := cell_blk q5 (i := 4) rfl
        have kO := hid (kO1.out W5 _ hB5 hs5)
        have rX5 := hk5.sl rX
        have rY5 := hk5.sl rY
        clear hW4 q4 q2 oX oY pX pY y4 f4 sX rX rY
        go_wp2_with (fail)
        refine kO.out.mono ?_
        rintro e W6 ⟨vl, rfl, oL, b6⟩
        have hB6 := hB5.trans (b6.mono hB5.size)
        have rX6 := (Kept.of_below b6 0).sl rX5
        have rY6 := (Kept.of_below b6 0).sl rY5
        have sL := sl_of_owns (enc := encIt) (fun _ _ => rfl) oL
        have q6 := (Kept.of_below b6 0).same _ _ q5 (.inl rfl)
        obtain ⟨pl, cl, rfl, hlx⟩ := sL.shape
        clear hk5 hs5 q5 v0 v1 v2 v3 v4 kO rX5 rY5 oL kO1
        go_upto_region 15 with (fail)
        have hz6 := hB6.size
        obtain ⟨i0, hi, hz0, hz1, hz2⟩ := info_parts Tryd.infoIt
        have o7 := owns_empty W6 W6.heap.size 34 6 (Nat.le_refl _)
        have d7 : Below W6.heap.size W6 (W6.alloc (.cells #[] 34)) := (Below.refl _ _).alloc (Nat.le_refl _) _
        have hfl := hid (show L.flatMap encIt = X.flatMap encIt ++ [.int .i64 2, .int .i64 4, .int .i64 2, .int .i64 1, .int .i64 0, .string ⟨#[]⟩] ++ Y.flatMap encIt by rw [← hL.out]; simp [List.flatMap_append, spaceT, encIt, eb0])
        have tok1 : True := trivial
        have tok2 : True := trivial
        have hen : ∀ (l : List It), ∀ x ∈ l, (encIt x).length = 6 ∧ ∀ u ∈ encIt x, u.oneCell' = true := fun l x _ => ⟨rfl, by simp [encIt, Value.oneCell']⟩
        go_wp2_with (first
          | (at_builtin; have _t := tok1; go_must (refine wpList_append_sl rfl _ _ 30 rfl W6.heap.size 34 i0 _ 6 56 Tryd.underlying30 hi hz0 hz1 hz2 rfl (by decide) _ _ _ rfl o7 encIt _ X rfl ((Kept.of_below d7 0).sl rX6) (hen X) (by unfold maxLen; omega) (by omega) (by simp) ?_; intro v8 w8 o8 g8 _; clear tok1; have d8 : Below W6.heap.size W6 w8 := d7.grown g8 (by simp) (fun j e => own_base o7 e); have p8 : w8.ownsRow W6.heap.size 34 6 v8 X.length (X.flatMap encIt) := (by simpa using o8); have y8 := (Kept.of_below d8 0).sl rY6; clear o7 d7 o8 g8))
          | (at_builtin; have _t := tok2; go_must (refine wpList_append_own _ rfl _ _ 30 rfl W6.heap.size 34 i0 (.agg #[.int .i64 0, .int .i64 0, .int .i64 0, .int .i64 0, .int .i64 0, .string ⟨#[]⟩]) 6 56 Tryd.underlying30 hi hz0 hz1 hz2 rfl (by decide) _ _ _ rfl (p8.alloc _) ⟨_, 0, none⟩ 1 1 [.int .i64 2, .int .i64 4, .int .i64 2, .int .i64 1, .int .i64 0, .string ⟨#[]⟩] rfl rfl (cells_new _ _ _) (by simp [Value.oneCell']) (by unfold maxLen; omega) (by omega) (by have := d8.size; simp; omega) ?_; intro v9 w9 o9 g9 _; clear tok2; have d9 : Below W6.heap.size W6 w9 := (d8.alloc d8.size _).grown g9 (by have := d8.size; simp; omega) (fun j e => own_base p8 e); have y9 := (Kept.of_below d9 0).sl rY6; clear g9))
          | (at_builtin; go_must (refine wpList_append_sl rfl _ _ 30 rfl W6.heap.size 34 i0 _ 6 56 Tryd.underlying30 hi hz0 hz1 hz2 rfl (by decide) _ _ _ rfl o9 encIt _ Y rfl y9 (hen Y) (by unfold maxLen; omega) (by omega) d9.size ?_; intro vA wA oA gA _; have dA : Below W6.heap.size W6 wA := d9.grown gA d9.size (fun j e => own_base o9 e); have qA := (Kept.of_below dA 0).same _ _ q6 (.inl rfl); have hBA := hB6.trans (dA.mono hz6); have oA2 : wA.ownsRow W6.heap.size 34 6 vA L.length (L.flatMap encIt) := (by have h := oA; rw [← hLl.out] at h; rw [hfl.out]; exact h); have sA := sl_of_owns (enc := encIt) (fun _ _ => rfl) oA2; obtain ⟨WB, hWB⟩ : ∃ W, wA.alloc (.cells #[.string sa, .string sb] 9) = W := ⟨_, rfl⟩; have hkB : Kept 0 wA WB := (by rw [← hWB]; exact Kept.alloc 0 _ _); have hBB : Below w.heap.size w WB := (by rw [← hWB]; exact hBA.alloc hBA.size _); have dB : Below W6.heap.size W6 WB := (by rw [← hWB]; exact dA.alloc dA.size _); have hsB : Sl WB 1 encS (.slice (some ⟨wA.heap.size, 0, none⟩) 2 2) [sa, sb] := (by rw [← hWB]; exact sl_texts wA [sa, sb] (show 2 ≤ maxLen by decide)); have qB := hkB.same _ _ qA (.inl rfl); have sB := hkB.sl sA; have v0 := cell_blk qB (i := 0) rfl; have v1 := cell_blk qB (i := 1) rfl; have v2 := cell_blk qB (i := 2) rfl; have v3 := cell_blk qB (i := 3) rfl; have v4 := cell_blk qB (i := 4) rfl; clear gA oA o9 y9 d9 p8 d8 y8 qA qB sA hkB oA2)))
        have kO := hid (kO3.out WB _ hBB hsB)
        refine kO.out.mono ?_
        rintro e WC ⟨vm, rfl, oM, bC⟩
        have hBC := hBB.trans (bC.mono hBB.size)
        have sC := (Kept.of_below bC 0).sl sB
        have sL2 := (Kept.of_below (dB.trans (bC.mono dB.size)) 0).sl sL
        have sM := sl_of_owns (enc := encIt) (fun _ _ => rfl) oM
        obtain ⟨mb, mo, cm, em, m1, m2, m3⟩ := sM.open (by intro h; have := hMl.out; rw [h] at this; simp at this)
        obtain rfl := em
        have sM2 : Sl WC 6 encIt (.slice (some ⟨mb, mo + 12, none⟩) L.length (cm - 2)) L := Sl.mk (by have := hMl.out; omega) (by omega) fun i x hi => by
          have h9 := m3 (i + 2) x (by rw [hMx]; exact hi)
          rwa [show mo + (i + 2) * 6 = mo + 12 + i * 6 by omega] at h9
        have hML := hMl.out
        have hMI : (M.length : Int) = (L.length : Int) + 2 := by omega
        have hcm : ¬ cm = 2 := by have := hLl.out; omega
        have kE := hid (Items_eq WC _ _ L sL2 sC)
        have hWk := hid (fun W (h : Below w.heap.size w W) => wakes14 W (hT.out.below h) (hR.out.below h))
        unfold maxLen at hlx m2
        clear v0 v1 v2 v3 v4 kO kO3 m3 sM oM sB dB hsB
        go_wp2_with (fail)
        refine kE.out.mono ?_
        rintro e WD ⟨rfl, nd, hWD⟩
        have sM3 : Sl WD 6 encIt (.slice (some ⟨mb, mo + 12, none⟩) L.length (cm - 2)) L := by rw [hWD]; exact (Kept.drewN 0 _ nd).sl sM2
        have sL3 : Sl WD 6 encIt (.slice pl L.length cl) L := by rw [hWD]; exact (Kept.drewN 0 _ nd).sl sL2
        have hBD : Below w.heap.size w WD := by rw [hWD]; exact hBC.drewN nd
        have kE2 := hid (Items_eq WD _ _ L sM3 sL3)
        clear hWD
        go_wp2_with (fail)
        refine kE2.out.mono ?_
        rintro e WE ⟨rfl, ne, hWE⟩
        have hBE : Below w.heap.size w WE := by rw [hWE]; exact hBD.drewN ne
        clear hWE
        go_wp2_with (fail)
        refine (hWk.out _ hBE).mono ?_
        rintro e WF ⟨rfl, bF⟩
        go_wp2_with (fail)
        go_ret
        exact ⟨rfl, hBE.trans (bF.mono hBE.size)⟩
end Go.Proofs.YtjkfefjfmocekaaDoor
