/- The walk of items.Word. -/
import Derived.Test.YtempicociampoaaGreatDoorItA
import Derived.Test.YtempicociampoaaGreatDoorJ9
namespace Go.Proofs.YtempicociampoaaGreatDoor
open Go.RowKit Go.Shelf
attribute [local go_sem] Oper.semAt_some

theorem KeepsX.of_below {N : TypeId → Bool} (B : Nat) {W W' : World} (h : Below W.heap.size W W') : KeepsX N B W W' :=
 ⟨h.size, fun k _o _ hk _ => (h.block k (Array.getElem?_eq_some_iff.1 hk).1).trans hk⟩
theorem KeepsX.drew {N : TypeId → Bool} (B : Nat) (W : World) : KeepsX N B W W.drew := ⟨Nat.le_refl _, fun _ _ _ h _ => h⟩
theorem pen_width : sumw (sgn (⟨#[45]⟩ : ByteArray).data.toList) = 4 := by
 have h : sgn [45] = [45] := sgn_of (by intro x hx; simp at hx; subst hx; unfold okv; omega) (by decide)
 show sumw (sgn [45]) = 4
 rw [h]; decide
/-- a boxed own row has been appended to, behind a call -/
theorem grow_box {N : TypeId → Bool} {W W1 w2 : World} {n₀ lb : Nat} {t e : TypeId} {size : Nat} {v v' : Value} {k m : Nat} {xs ys : List Value} {tmp : Obj} (B : Nat) (hWW : KeepsX N B W W1)
  (hv : Boxed W1 lb t v) (hte : t ≠ e) (hrow : W1.ownsRow n₀ e size v k xs) (hn : n₀ ≤ W1.heap.size) (hB : n₀ ≤ lb)
  (hown : w2.ownsRow n₀ e size v' m ys) (hgrow : (W1.alloc tmp).grownBy w2 v.ownBlock) (hNt : N t = false) (hNe : N e = false) :
  Boxed w2 lb t v ∧ Boxed (w2.setCell ⟨lb, 0, none⟩ v') lb t v' ∧ (w2.setCell ⟨lb, 0, none⟩ v').ownsRow n₀ e size v' m ys ∧ KeepsX N B W (w2.setCell ⟨lb, 0, none⟩ v') ∧ Below n₀ W1 (w2.setCell ⟨lb, 0, none⟩ v') ∧
   (∀ i o, W1.heap[i]? = some o → ownT (fun x => x == e) o = false → i ≠ lb → (w2.setCell ⟨lb, 0, none⟩ v').heap[i]? = some o) := by
 obtain ⟨h1, h2, h3, -, h5⟩ := hv.appended hte hrow hn hB hown hgrow
 refine ⟨h1, h2, h3, ((hWW.trans (KeepsX.alloc _ _ _)).trans (KeepsX.grown _ hgrow (owns_type (hrow.alloc _) hNe))).trans (KeepsX.setCell _ h1 hNt _), h5, fun i o hi ho hne => ?_⟩
 rw [setCell_off hne]
 refine (hgrow.block i (by have := (Array.getElem?_eq_some_iff.1 hi).1; simp; omega) ?_).trans ((Below.heap_alloc W1 tmp i (Array.getElem?_eq_some_iff.1 hi).1).trans hi)
 intro e1
 rcases hrow.2 with ⟨rfl, _⟩ | ⟨g, cap, cur, rfl, hg, hh, _⟩
 ·simp [Value.ownBlock] at e1
 ·simp [Value.ownBlock] at e1
  subst e1
  rw [hh] at hi; cases hi
  simp [ownT] at ho

set_option maxRecDepth 100000 in
set_option maxHeartbeats 8000000 in
theorem Word_any (s : ByteArray) (a b c d ind : Int) (w : World) (hs : s.size ≤ 2000000) (hT : Tabs w) (hR : Asp w) :
  Calls Tryz.prog 85 #[.string s, .agg #[.int .i64 a, .int .i64 b, .int .i64 c, .int .i64 d, .int .i64 ind]] w fun e w' => ∃ v, e = .returned v ∧ w'.ownsRow w.heap.size 49 6 v (wordI d s).length ((wordI d s).flatMap encIt) ∧ Below w.heap.size w w' := by
 obtain ⟨i0, hi, hz0, hz1, hz2⟩ := info_parts Tryz.infoIt
 have hw120 := wordI_len d s
 have hcl := cuts_len s
 refine calls_of_marks Tryz.func85 rfl ?_
 simp only [Tryz.ntmps85, List.size_toArray, List.length_cons, List.length_nil, Nat.reduceAdd, Nat.reduceSub, Array.replicate_succ, Array.replicate_zero, List.push_toArray, List.append_toArray, List.nil_append, List.cons_append]
 gi_wp2_with (fail)
 refine ⟨trivial, rfl, (callsIn_wide.2 (wpieces_any s _)).mono ?_⟩
 rintro e w2 ⟨rfl, rfl⟩
 gi_wp2_with (fail)
 obtain ⟨n₀, hn₀⟩ : ∃ n, w.heap.size = n := ⟨_, rfl⟩
 have hB0 : Below n₀ w (((w.alloc (.cells #[.int .i64 a, .int .i64 b, .int .i64 c, .int .i64 d, .int .i64 ind] 26)).alloc (.cells #[.slice none 0 0] 40)).alloc (.cells #[.string s] 9)) := by
  rw [← hn₀]
  exact (((Below.refl w.heap.size w).alloc (Nat.le_refl _) _).alloc (by simp) _).alloc (by simp; omega) _
 have f0 : (((w.alloc (.cells #[.int .i64 a, .int .i64 b, .int .i64 c, .int .i64 d, .int .i64 ind] 26)).alloc (.cells #[.slice none 0 0] 40)).alloc (.cells #[.string s] 9)).heap[n₀]? = some (.cells #[.int .i64 a, .int .i64 b, .int .i64 c, .int .i64 d, .int .i64 ind] 26 (0, 0)) := by
  rw [← hn₀]
  exact ((Kept.alloc 0 _ _).trans (Kept.alloc 0 _ _)).same _ _ (World.alloc_heap_new w _) (.inl rfl)
 have f1 : Boxed (((w.alloc (.cells #[.int .i64 a, .int .i64 b, .int .i64 c, .int .i64 d, .int .i64 ind] 26)).alloc (.cells #[.slice none 0 0] 40)).alloc (.cells #[.string s] 9)) (n₀ + 1) 40 (.slice none 0 0) := by
  rw [← hn₀]
  have := Boxed.new (w.alloc (.cells #[.int .i64 a, .int .i64 b, .int .i64 c, .int .i64 d, .int .i64 ind] 26)) 40 (.slice none 0 0)
  rw [World.size_alloc] at this
  exact this.alloc _
 have f2 : (((w.alloc (.cells #[.int .i64 a, .int .i64 b, .int .i64 c, .int .i64 d, .int .i64 ind] 26)).alloc (.cells #[.slice none 0 0] 40)).alloc (.cells #[.string s] 9)).heap[n₀ + 1 + 1]? = some (.cells #[.string s] 9 (0, 0)) := by
  rw [← hn₀]
  have := World.alloc_heap_new ((w.alloc (.cells #[.int .i64 a, .int .i64 b, .int .i64 c, .int .i64 d, .int .i64 ind] 26)).alloc (.cells #[.slice none 0 0] 40)) (.cells #[.string s] 9)
  rw [World.size_alloc, World.size_alloc] at this
  exact this
 have hz : (((w.alloc (.cells #[.int .i64 a, .int .i64 b, .int .i64 c, .int .i64 d, .int .i64 ind] 26)).alloc (.cells #[.slice none 0 0] 40)).alloc (.cells #[.string s] 9)).heap.size = n₀ + 3 := by rw [← hn₀]; simp
 generalize (((w.alloc (.cells #[.int .i64 a, .int .i64 b, .int .i64 c, .int .i64 d, .int .i64 ind] 26)).alloc (.cells #[.slice none 0 0] 40)).alloc (.cells #[.string s] 9)) = W0 at *
 have cM0 : ∀ W, Below n₀ w W → Calls Tryz.prog 45 #[.string ⟨#[45]⟩] W fun e w' => e = .returned (.int .i64 4) ∧ Below W.heap.size W w' := by
  intro W h
  have := MText_any ⟨#[45]⟩ W (by decide) (hT.below (by rw [hn₀]; exact h))
  rwa [show sumw (sgn (⟨#[45]⟩ : ByteArray).data.toList) = 4 from pen_width] at this
 have cB0 : ∀ (T : ByteArray) W, T.size ≤ 2000000 → Below n₀ w W → Calls Tryz.prog 84 #[.string T] W fun e w' => e = .returned (.agg (encIt (boxT T)).toArray) ∧ Below W.heap.size W w' := fun T W h1 h => box_any T W (by omega) (hT.below (by rw [hn₀]; exact h))
 have hAs : Asp W0 := hR.below (by rw [hn₀]; exact hB0)
 rw [hn₀]
 replace hn₀ := hid hn₀
 replace hz : n₀ + 3 ≤ W0.heap.size := by omega
 refine range_pX (act := ?act) rfl (enters_of Tryz.func120 (by kernel_rfl) rfl) (wpieces1_seq s hs (n₀ + 1 + 1)) (fun _ => rfl)
  (fun pre W => (∃ v, Boxed W (n₀ + 1) 40 v ∧ W.ownsRow n₀ 49 6 v (pcIts d pre).length ((pcIts d pre).flatMap encIt)) ∧ W.heap[n₀]? = some (.cells #[.int .i64 a, .int .i64 b, .int .i64 c, .int .i64 d, .int .i64 ind] 26 (0, 0)) ∧ n₀ + 3 ≤ W.heap.size ∧ Below n₀ w W)
  (fun _ _ _ => False) ?hI (fun _ _ _ _ _ h => h) PcR.st (fun _ _ => St.pure _) (fun _ => St.pure _) (fun _ => St.pure _) ?h0 ⟨f2, hAs⟩
  ?assign ?body ?done ?stop
 case assign =>
  intro l x W K hK
  dsimp only [pkEnc]
  gi_wp2
  exact hK
 case hI =>
  rintro pre A C hk ⟨⟨v, h1, h2⟩, h3, h4, h5⟩
  exact ⟨⟨v, hk.same _ _ h1 (.inl ⟨rfl, rfl⟩), hk.owns rfl h2⟩, hk.same _ _ h3 (.inl ⟨rfl, rfl⟩), Nat.le_trans h4 hk.size, hk.below (by omega) (by have := hn₀.out; omega) h5⟩
 case h0 => exact ⟨⟨_, f1, World.ownsRow_nil _ _ _ _⟩, f0, by omega, hB0⟩
 case done =>
  rintro D xs W hD rfl ⟨⟨v, hv, hrow⟩, hst, hsz, hB⟩ hR' hK
  have hc := hv.cell
  gi_wp2
  refine leave1 hK (fun _ _ => results_tmp rfl _ _ _) ⟨_, rfl, ?_, ?_⟩
  ·rw [hn₀.out]; exact (Kept.putObj (B := 0) _ (Nat.zero_le _) hK rfl).owns hrow
  ·rw [hn₀.out]; exact (Kept.putObj (B := n₀) (.deferred none) (by omega) hK rfl).below (Nat.le_refl _) (by have := hn₀.out; omega) hB
 case stop =>
  rintro D c pre W _ _ h _
  exact h.elim
 case body =>
  rintro l pre ⟨i, T⟩ W hl2 _ ⟨⟨v, hv, hrow⟩, hst, hsz, hB⟩ hR' hadm
  have hc := hv.cell
  have sc := cell_blk (i := 3) hst rfl
  have hpl : (pcIts d pre).length + 2 ≤ 120 ∧ T.size ≤ 2000000 := by
   obtain ⟨t, ht⟩ := hadm
   have e1 := congrArg List.length ht
   unfold pcsL at ht e1
   rw [pcsTo_len] at e1
   simp at e1
   have e2 := pcIts_len d pre
   have e3 : (i, T) ∈ pcsTo s (cuts s).length := by rw [← ht]; simp
   unfold pcsTo at e3
   obtain ⟨k, -, e4⟩ := List.mem_map.1 e3
   simp only [Prod.mk.injEq] at e4
   obtain ⟨-, rfl⟩ := e4
   have : (pieceAt s k).size ≤ s.size := by unfold pieceAt; rw [ByteArray.size_extract]; omega
   omega
  have cB := hid (cB0 T)
  have cM := hid cM0
  have heT : encIt (boxT T) = [.int .i64 1, .int .i64 (tm T), .int .i64 0, .int .i64 0, .int .i64 0, .string T] := rfl
  have hsn := hid (pcIts_snoc d pre (i, T))
  clear cB0 cM0 hadm
  generalize tm T = n at *
  generalize boxT T = bt at *
  generalize pcIts d pre = L0 at *
  have hpc := hR'.1
  have hAW := hR'.2
  obtain ⟨L1, hL1⟩ : ∃ L1, L0 ++ (if 0 < i then [penT d] else []) = L1 := ⟨_, rfl⟩
  have hL1n : L1.length ≤ 119 := by rw [← hL1, List.length_append]; split <;> simp <;> omega
  have hsn2 := hid (hL1 ▸ hsn.out)
  replace hL1 := hid hL1
  clear hsn
  gi_upto_if 13 with (fail)
  gi_cut [13] from 99 (fun _ wx => (∃ v, Boxed wx (n₀ + 1) 40 v ∧ wx.ownsRow n₀ 49 6 v L1.length (L1.flatMap encIt)) ∧ wx.heap[n₀]? = some (.cells #[.int .i64 a, .int .i64 b, .int .i64 c, .int .i64 d, .int .i64 ind] 26 (0, 0)) ∧ wx.heap[n₀ + 1 + 1]? = some (.cells #[.string s] 9 (0, 0)) ∧ n₀ + 3 ≤ wx.heap.size ∧ KeepsX (fun t => t == 3) W0.heap.size W wx ∧ Below n₀ w wx)
  case first =>
   rename_i J2 K2 hJ2 hK2
   by_cases h0i : 0 < i
   ·have h0I : (0 : Int) < i := by omega
    have hq := hid (show L1 = L0 ++ [penT d] by rw [← hL1.out, if_pos h0i])
    gi_upto_region 6 with (fail)
    -- region 6
    refine region_out (by kernel_rfl) (by kernel_rfl) rfl ?_
    refine wpAnyIn_take (i := 2) (oi := ⟨some 16, _, _, _, _, _⟩) (v := ?_) rfl rfl (by kernel_rfl) (by kernel_rfl) (by kernel_rfl) (fun _ _ _ h => h) ⟨Or.inl ⟨by rfl, ?_⟩, fun _ => rfl⟩ ?_
    rotate_left
    ·intro w; go_simp <;> with_reducible rfl
    try simp only [Act.put, List.setIfInBounds_toArray, List.set_cons_zero, List.set_cons_succ]
    refine wpAnyIn_ready (rs := [0, 1, 3]) (by kernel_rfl) (by simp) ?_
    refine AllReadyIn.cons rfl (fun K hK => ?_) ?_
    ·go_simp
     first | refine hK _ _ ?_ | refine ⟨trivial, hK _ _ ?_⟩ | refine ⟨fun _ _ => trivial, hK _ _ ?_⟩
     clear hK K
     refine wpAnyIn_ready (rs := [1, 3]) (by kernel_rfl) (by simp) ?_
     refine AllReadyIn.cons rfl (fun K hK => ?_) ?_
     ·go_simp
      refine ⟨trivial, rfl, (callsIn_wide.2 (cM.out _ (Below_dr hB))).mono ?_⟩
      rintro e w9 ⟨rfl, b9⟩
      have v9 : Boxed w9 (n₀ + 1) 40 v := (b9.block (n₀ + 1) (by show n₀ + 1 < W.heap.size; omega)).trans hv
      have c9 := v9.cell
      have d9 := (v9.alloc (.cells #[.int .i64 3, .int .i64 4, .int .i64 0, .int .i64 0, .int .i64 d, .string ⟨#[]⟩] 49)).cell
      have r9 := (Kept.of_below b9 0).owns ((Kept.drew 0 W).owns hrow)
      have t9 := (b9.block n₀ (by show n₀ < W.heap.size; omega)).trans (show W.drew.heap[n₀]? = _ from hst)
      have s9 := cell_blk (i := 3) t9 rfl
      have p9 := (b9.block (n₀ + 1 + 1) (by show n₀ + 1 + 1 < W.heap.size; omega)).trans (show W.drew.heap[n₀ + 1 + 1]? = _ from hpc)
      have B9 := (Below_dr hB).trans (b9.mono (by show n₀ ≤ W.heap.size; omega))
      have z9 : W.heap.size ≤ w9.heap.size := b9.size
      first | refine hK _ _ ?_ | refine ⟨trivial, hK _ _ ?_⟩ | refine ⟨fun _ _ => trivial, hK _ _ ?_⟩
      clear hK K
      refine wpAnyIn_ready (rs := [3]) (by kernel_rfl) (by simp) ?_
      refine AllReadyIn.cons rfl (fun K hK => ?_) AllReadyIn.nil
      go_simp
      first | refine hK _ _ ?_ | refine ⟨trivial, hK _ _ ?_⟩ | refine ⟨fun _ _ => trivial, hK _ _ ?_⟩
      clear hK K
      refine wpAnyIn_take (i := 4) (oi := ⟨some 18, _, _, _, _, _⟩) (v := ?_) rfl rfl (by kernel_rfl) (by kernel_rfl) (by kernel_rfl) (fun _ _ _ h => h) ⟨Or.inl ⟨by rfl, ?_⟩, fun _ => rfl⟩ ?_
      rotate_left
      ·intro w; go_simp <;> with_reducible rfl
      try simp only [Act.put, List.setIfInBounds_toArray, List.set_cons_zero, List.set_cons_succ]
      refine wpAnyIn_ready (rs := [5]) (by kernel_rfl) (by simp) ?_
      refine AllReadyIn.cons rfl (fun K hK => ?_) AllReadyIn.nil
      go_simp
      first | refine hK _ _ ?_ | refine ⟨trivial, hK _ _ ?_⟩ | refine ⟨fun _ _ => trivial, hK _ _ ?_⟩
      clear hK K
      refine wpAnyIn_ready (rs := [6]) (by kernel_rfl) (by simp) ?_
      refine BigFrame.allReadyIn_want rfl (by rfl) (fun K hK => ?_) AllReadyIn.nil
      refine wpIn_append_own _ _ 40 rfl n₀ 49 i0 (.agg #[.int .i64 0, .int .i64 0, .int .i64 0, .int .i64 0, .int .i64 0, .string ⟨#[]⟩]) 6 56 Tryz.underlying40 hi hz0 hz1 hz2 rfl (by decide) _ _ _ rfl (r9.alloc _) ⟨_, 0, none⟩ 1 1 [.int .i64 3, .int .i64 4, .int .i64 0, .int .i64 0, .int .i64 d, .string ⟨#[]⟩] rfl rfl (cells_new _ _ _) (by simp [Value.oneCell']) (by unfold maxLen; omega) (by omega) (by simp; omega) (fun v' w2 hown hgr _ => hK _ _ ?_)
      have hgr2 : World.grownBy _ w2 v.ownBlock := hgr
      obtain ⟨g2, c2, rfl⟩ := ownsRow_succ hown
      obtain ⟨o1, o2, o3, o4, o5, o6⟩ := grow_box (N := fun t => t == 3) W0.heap.size ((KeepsX.drew _ W).trans (KeepsX.of_below _ b9)) v9 (by decide) r9 (by omega) (by omega) hown hgr2 rfl rfl
      have oc := o1.cell
      have of := o1.frozen
      clear hK K
      refine wpAnyIn_ready (rs := [7]) (by kernel_rfl) (by simp) ?_
      refine AllReadyIn.cons rfl (fun K hK => ?_) AllReadyIn.nil
      go_simp
      first | refine hK _ _ ?_ | refine ⟨trivial, hK _ _ ?_⟩ | refine ⟨fun _ _ => trivial, hK _ _ ?_⟩
      clear hK K
      refine wpAnyIn_done (by kernel_rfl) ?_ _
      first | refine hK2 _ _ (Met.intro (hJ2 _ _ ?_)) | refine Met.intro (hJ2 _ _ ?_) | refine hJ2 _ _ ?_
      have B5 := B9.trans o5
      have e5 := o5.size
      (repeat apply Exists.intro)
      refine ⟨?_, rfl⟩
      refine ⟨⟨_, o2, ?_⟩, o6 _ _ t9 rfl (by omega), o6 _ _ p9 rfl (by omega), by omega, o4, B5⟩
      rw [hq.out]
      simpa [encIt, List.flatMap_append, penT, eb0] using o3
     refine AllReadyIn.cons rfl (fun K hK => ?_) AllReadyIn.nil
     go_simp
     first | refine hK _ _ ?_ | refine ⟨trivial, hK _ _ ?_⟩ | refine ⟨fun _ _ => trivial, hK _ _ ?_⟩
     clear hK K
     refine wpAnyIn_ready (rs := [1]) (by kernel_rfl) (by simp) ?_
     refine AllReadyIn.cons rfl (fun K hK => ?_) AllReadyIn.nil
     go_simp
     refine ⟨trivial, rfl, (callsIn_wide.2 (cM.out _ (Below_dr hB))).mono ?_⟩
     rintro e w9 ⟨rfl, b9⟩
     have v9 : Boxed w9 (n₀ + 1) 40 v := (b9.block (n₀ + 1) (by show n₀ + 1 < W.heap.size; omega)).trans hv
     have c9 := v9.cell
     have d9 := (v9.alloc (.cells #[.int .i64 3, .int .i64 4, .int .i64 0, .int .i64 0, .int .i64 d, .string ⟨#[]⟩] 49)).cell
     have r9 := (Kept.of_below b9 0).owns ((Kept.drew 0 W).owns hrow)
     have t9 := (b9.block n₀ (by show n₀ < W.heap.size; omega)).trans (show W.drew.heap[n₀]? = _ from hst)
     have s9 := cell_blk (i := 3) t9 rfl
     have p9 := (b9.block (n₀ + 1 + 1) (by show n₀ + 1 + 1 < W.heap.size; omega)).trans (show W.drew.heap[n₀ + 1 + 1]? = _ from hpc)
     have B9 := (Below_dr hB).trans (b9.mono (by show n₀ ≤ W.heap.size; omega))
     have z9 : W.heap.size ≤ w9.heap.size := b9.size
     first | refine hK _ _ ?_ | refine ⟨trivial, hK _ _ ?_⟩ | refine ⟨fun _ _ => trivial, hK _ _ ?_⟩
     clear hK K
     refine wpAnyIn_take (i := 4) (oi := ⟨some 18, _, _, _, _, _⟩) (v := ?_) rfl rfl (by kernel_rfl) (by kernel_rfl) (by kernel_rfl) (fun _ _ _ h => h) ⟨Or.inl ⟨by rfl, ?_⟩, fun _ => rfl⟩ ?_
     rotate_left
     ·intro w; go_simp <;> with_reducible rfl
     try simp only [Act.put, List.setIfInBounds_toArray, List.set_cons_zero, List.set_cons_succ]
     refine wpAnyIn_ready (rs := [5]) (by kernel_rfl) (by simp) ?_
     refine AllReadyIn.cons rfl (fun K hK => ?_) AllReadyIn.nil
     go_simp
     first | refine hK _ _ ?_ | refine ⟨trivial, hK _ _ ?_⟩ | refine ⟨fun _ _ => trivial, hK _ _ ?_⟩
     clear hK K
     refine wpAnyIn_ready (rs := [6]) (by kernel_rfl) (by simp) ?_
     refine BigFrame.allReadyIn_want rfl (by rfl) (fun K hK => ?_) AllReadyIn.nil
     refine wpIn_append_own _ _ 40 rfl n₀ 49 i0 (.agg #[.int .i64 0, .int .i64 0, .int .i64 0, .int .i64 0, .int .i64 0, .string ⟨#[]⟩]) 6 56 Tryz.underlying40 hi hz0 hz1 hz2 rfl (by decide) _ _ _ rfl (r9.alloc _) ⟨_, 0, none⟩ 1 1 [.int .i64 3, .int .i64 4, .int .i64 0, .int .i64 0, .int .i64 d, .string ⟨#[]⟩] rfl rfl (cells_new _ _ _) (by simp [Value.oneCell']) (by unfold maxLen; omega) (by omega) (by simp; omega) (fun v' w2 hown hgr _ => hK _ _ ?_)
     have hgr2 : World.grownBy _ w2 v.ownBlock := hgr
     obtain ⟨g2, c2, rfl⟩ := ownsRow_succ hown
     obtain ⟨o1, o2, o3, o4, o5, o6⟩ := grow_box (N := fun t => t == 3) W0.heap.size ((KeepsX.drew _ W).trans (KeepsX.of_below _ b9)) v9 (by decide) r9 (by omega) (by omega) hown hgr2 rfl rfl
     have oc := o1.cell
     have of := o1.frozen
     clear hK K
     refine wpAnyIn_ready (rs := [7]) (by kernel_rfl) (by simp) ?_
     refine AllReadyIn.cons rfl (fun K hK => ?_) AllReadyIn.nil
     go_simp
     first | refine hK _ _ ?_ | refine ⟨trivial, hK _ _ ?_⟩ | refine ⟨fun _ _ => trivial, hK _ _ ?_⟩
     clear hK K
     refine wpAnyIn_done (by kernel_rfl) ?_ _
     first | refine hK2 _ _ (Met.intro (hJ2 _ _ ?_)) | refine Met.intro (hJ2 _ _ ?_) | refine hJ2 _ _ ?_
     have B5 := B9.trans o5
     have e5 := o5.size
     (repeat apply Exists.intro)
     refine ⟨?_, rfl⟩
     refine ⟨⟨_, o2, ?_⟩, o6 _ _ t9 rfl (by omega), o6 _ _ p9 rfl (by omega), by omega, o4, B5⟩
     rw [hq.out]
     simpa [encIt, List.flatMap_append, penT, eb0] using o3
    refine AllReadyIn.cons rfl (fun K hK => ?_) ?_
    ·go_simp
     refine ⟨trivial, rfl, (callsIn_wide.2 (cM.out _ (Below_dr hB))).mono ?_⟩
     rintro e w9 ⟨rfl, b9⟩
     have v9 : Boxed w9 (n₀ + 1) 40 v := (b9.block (n₀ + 1) (by show n₀ + 1 < W.heap.size; omega)).trans hv
     have c9 := v9.cell
     have d9 := (v9.alloc (.cells #[.int .i64 3, .int .i64 4, .int .i64 0, .int .i64 0, .int .i64 d, .string ⟨#[]⟩] 49)).cell
     have r9 := (Kept.of_below b9 0).owns ((Kept.drew 0 W).owns hrow)
     have t9 := (b9.block n₀ (by show n₀ < W.heap.size; omega)).trans (show W.drew.heap[n₀]? = _ from hst)
     have s9 := cell_blk (i := 3) t9 rfl
     have p9 := (b9.block (n₀ + 1 + 1) (by show n₀ + 1 + 1 < W.heap.size; omega)).trans (show W.drew.heap[n₀ + 1 + 1]? = _ from hpc)
     have B9 := (Below_dr hB).trans (b9.mono (by show n₀ ≤ W.heap.size; omega))
     have z9 : W.heap.size ≤ w9.heap.size := b9.size
     first | refine hK _ _ ?_ | refine ⟨trivial, hK _ _ ?_⟩ | refine ⟨fun _ _ => trivial, hK _ _ ?_⟩
     clear hK K
     refine wpAnyIn_ready (rs := [0, 3]) (by kernel_rfl) (by simp) ?_
     refine AllReadyIn.cons rfl (fun K hK => ?_) ?_
     ·go_simp
      first | refine hK _ _ ?_ | refine ⟨trivial, hK _ _ ?_⟩ | refine ⟨fun _ _ => trivial, hK _ _ ?_⟩
      clear hK K
      refine wpAnyIn_ready (rs := [3]) (by kernel_rfl) (by simp) ?_
      refine AllReadyIn.cons rfl (fun K hK => ?_) AllReadyIn.nil
      go_simp
      first | refine hK _ _ ?_ | refine ⟨trivial, hK _ _ ?_⟩ | refine ⟨fun _ _ => trivial, hK _ _ ?_⟩
      clear hK K
      refine wpAnyIn_take (i := 4) (oi := ⟨some 18, _, _, _, _, _⟩) (v := ?_) rfl rfl (by kernel_rfl) (by kernel_rfl) (by kernel_rfl) (fun _ _ _ h => h) ⟨Or.inl ⟨by rfl, ?_⟩, fun _ => rfl⟩ ?_
      rotate_left
      ·intro w; go_simp <;> with_reducible rfl
      try simp only [Act.put, List.setIfInBounds_toArray, List.set_cons_zero, List.set_cons_succ]
      refine wpAnyIn_ready (rs := [5]) (by kernel_rfl) (by simp) ?_
      refine AllReadyIn.cons rfl (fun K hK => ?_) AllReadyIn.nil
      go_simp
      first | refine hK _ _ ?_ | refine ⟨trivial, hK _ _ ?_⟩ | refine ⟨fun _ _ => trivial, hK _ _ ?_⟩
      clear hK K
      refine wpAnyIn_ready (rs := [6]) (by kernel_rfl) (by simp) ?_
      refine BigFrame.allReadyIn_want rfl (by rfl) (fun K hK => ?_) AllReadyIn.nil
      refine wpIn_append_own _ _ 40 rfl n₀ 49 i0 (.agg #[.int .i64 0, .int .i64 0, .int .i64 0, .int .i64 0, .int .i64 0, .string ⟨#[]⟩]) 6 56 Tryz.underlying40 hi hz0 hz1 hz2 rfl (by decide) _ _ _ rfl (r9.alloc _) ⟨_, 0, none⟩ 1 1 [.int .i64 3, .int .i64 4, .int .i64 0, .int .i64 0, .int .i64 d, .string ⟨#[]⟩] rfl rfl (cells_new _ _ _) (by simp [Value.oneCell']) (by unfold maxLen; omega) (by omega) (by simp; omega) (fun v' w2 hown hgr _ => hK _ _ ?_)
      have hgr2 : World.grownBy _ w2 v.ownBlock := hgr
      obtain ⟨g2, c2, rfl⟩ := ownsRow_succ hown
      obtain ⟨o1, o2, o3, o4, o5, o6⟩ := grow_box (N := fun t => t == 3) W0.heap.size ((KeepsX.drew _ W).trans (KeepsX.of_below _ b9)) v9 (by decide) r9 (by omega) (by omega) hown hgr2 rfl rfl
      have oc := o1.cell
      have of := o1.frozen
      clear hK K
      refine wpAnyIn_ready (rs := [7]) (by kernel_rfl) (by simp) ?_
      refine AllReadyIn.cons rfl (fun K hK => ?_) AllReadyIn.nil
      go_simp
      first | refine hK _ _ ?_ | refine ⟨trivial, hK _ _ ?_⟩ | refine ⟨fun _ _ => trivial, hK _ _ ?_⟩
      clear hK K
      refine wpAnyIn_done (by kernel_rfl) ?_ _
      first | refine hK2 _ _ (Met.intro (hJ2 _ _ ?_)) | refine Met.intro (hJ2 _ _ ?_) | refine hJ2 _ _ ?_
      have B5 := B9.trans o5
      have e5 := o5.size
      (repeat apply Exists.intro)
      refine ⟨?_, rfl⟩
      refine ⟨⟨_, o2, ?_⟩, o6 _ _ t9 rfl (by omega), o6 _ _ p9 rfl (by omega), by omega, o4, B5⟩
      rw [hq.out]
      simpa [encIt, List.flatMap_append, penT, eb0] using o3
     refine AllReadyIn.cons rfl (fun K hK => ?_) AllReadyIn.nil
     go_simp
     first | refine hK _ _ ?_ | refine ⟨trivial, hK _ _ ?_⟩ | refine ⟨fun _ _ => trivial, hK _ _ ?_⟩
     clear hK K
     refine wpAnyIn_take (i := 4) (oi := ⟨some 18, _, _, _, _, _⟩) (v := ?_) rfl rfl (by kernel_rfl) (by kernel_rfl) (by kernel_rfl) (fun _ _ _ h => h) ⟨Or.inl ⟨by rfl, ?_⟩, fun _ => rfl⟩ ?_
     rotate_left
     ·intro w; go_simp <;> with_reducible rfl
     try simp only [Act.put, List.setIfInBounds_toArray, List.set_cons_zero, List.set_cons_succ]
     refine wpAnyIn_ready (rs := [0, 5]) (by kernel_rfl) (by simp) ?_
     refine AllReadyIn.cons rfl (fun K hK => ?_) ?_
     ·go_simp
      first | refine hK _ _ ?_ | refine ⟨trivial, hK _ _ ?_⟩ | refine ⟨fun _ _ => trivial, hK _ _ ?_⟩
      clear hK K
      refine wpAnyIn_ready (rs := [5]) (by kernel_rfl) (by simp) ?_
      refine AllReadyIn.cons rfl (fun K hK => ?_) AllReadyIn.nil
      go_simp
      first | refine hK _ _ ?_ | refine ⟨trivial, hK _ _ ?_⟩ | refine ⟨fun _ _ => trivial, hK _ _ ?_⟩
      clear hK K
      refine wpAnyIn_ready (rs := [6]) (by kernel_rfl) (by simp) ?_
      refine BigFrame.allReadyIn_want rfl (by rfl) (fun K hK => ?_) AllReadyIn.nil
      refine wpIn_append_own _ _ 40 rfl n₀ 49 i0 (.agg #[.int .i64 0, .int .i64 0, .int .i64 0, .int .i64 0, .int .i64 0, .string ⟨#[]⟩]) 6 56 Tryz.underlying40 hi hz0 hz1 hz2 rfl (by decide) _ _ _ rfl (r9.alloc _) ⟨_, 0, none⟩ 1 1 [.int .i64 3, .int .i64 4, .int .i64 0, .int .i64 0, .int .i64 d, .string ⟨#[]⟩] rfl rfl (cells_new _ _ _) (by simp [Value.oneCell']) (by unfold maxLen; omega) (by omega) (by simp; omega) (fun v' w2 hown hgr _ => hK _ _ ?_)
      have hgr2 : World.grownBy _ w2 v.ownBlock := hgr
      obtain ⟨g2, c2, rfl⟩ := ownsRow_succ hown
      obtain ⟨o1, o2, o3, o4, o5, o6⟩ := grow_box (N := fun t => t == 3) W0.heap.size ((KeepsX.drew _ W).trans (KeepsX.of_below _ b9)) v9 (by decide) r9 (by omega) (by omega) hown hgr2 rfl rfl
      have oc := o1.cell
      have of := o1.frozen
      clear hK K
      refine wpAnyIn_ready (rs := [7]) (by kernel_rfl) (by simp) ?_
      refine AllReadyIn.cons rfl (fun K hK => ?_) AllReadyIn.nil
      go_simp
      first | refine hK _ _ ?_ | refine ⟨trivial, hK _ _ ?_⟩ | refine ⟨fun _ _ => trivial, hK _ _ ?_⟩
      clear hK K
      refine wpAnyIn_done (by kernel_rfl) ?_ _
      first | refine hK2 _ _ (Met.intro (hJ2 _ _ ?_)) | refine Met.intro (hJ2 _ _ ?_) | refine hJ2 _ _ ?_
      have B5 := B9.trans o5
      have e5 := o5.size
      (repeat apply Exists.intro)
      refine ⟨?_, rfl⟩
      refine ⟨⟨_, o2, ?_⟩, o6 _ _ t9 rfl (by omega), o6 _ _ p9 rfl (by omega), by omega, o4, B5⟩
      rw [hq.out]
      simpa [encIt, List.flatMap_append, penT, eb0] using o3
     refine AllReadyIn.cons rfl (fun K hK => ?_) AllReadyIn.nil
     go_simp
     first | refine hK _ _ ?_ | refine ⟨trivial, hK _ _ ?_⟩ | refine ⟨fun _ _ => trivial, hK _ _ ?_⟩
     clear hK K
     refine wpAnyIn_ready (rs := [0]) (by kernel_rfl) (by simp) ?_
     refine AllReadyIn.cons rfl (fun K hK => ?_) AllReadyIn.nil
     go_simp
     first | refine hK _ _ ?_ | refine ⟨trivial, hK _ _ ?_⟩ | refine ⟨fun _ _ => trivial, hK _ _ ?_⟩
     clear hK K
     refine wpAnyIn_ready (rs := [6]) (by kernel_rfl) (by simp) ?_
     refine BigFrame.allReadyIn_want rfl (by rfl) (fun K hK => ?_) AllReadyIn.nil
     refine wpIn_append_own _ _ 40 rfl n₀ 49 i0 (.agg #[.int .i64 0, .int .i64 0, .int .i64 0, .int .i64 0, .int .i64 0, .string ⟨#[]⟩]) 6 56 Tryz.underlying40 hi hz0 hz1 hz2 rfl (by decide) _ _ _ rfl (r9.alloc _) ⟨_, 0, none⟩ 1 1 [.int .i64 3, .int .i64 4, .int .i64 0, .int .i64 0, .int .i64 d, .string ⟨#[]⟩] rfl rfl (cells_new _ _ _) (by simp [Value.oneCell']) (by unfold maxLen; omega) (by omega) (by simp; omega) (fun v' w2 hown hgr _ => hK _ _ ?_)
     have hgr2 : World.grownBy _ w2 v.ownBlock := hgr
     obtain ⟨g2, c2, rfl⟩ := ownsRow_succ hown
     obtain ⟨o1, o2, o3, o4, o5, o6⟩ := grow_box (N := fun t => t == 3) W0.heap.size ((KeepsX.drew _ W).trans (KeepsX.of_below _ b9)) v9 (by decide) r9 (by omega) (by omega) hown hgr2 rfl rfl
     have oc := o1.cell
     have of := o1.frozen
     clear hK K
     refine wpAnyIn_ready (rs := [7]) (by kernel_rfl) (by simp) ?_
     refine AllReadyIn.cons rfl (fun K hK => ?_) AllReadyIn.nil
     go_simp
     first | refine hK _ _ ?_ | refine ⟨trivial, hK _ _ ?_⟩ | refine ⟨fun _ _ => trivial, hK _ _ ?_⟩
     clear hK K
     refine wpAnyIn_done (by kernel_rfl) ?_ _
     first | refine hK2 _ _ (Met.intro (hJ2 _ _ ?_)) | refine Met.intro (hJ2 _ _ ?_) | refine hJ2 _ _ ?_
     have B5 := B9.trans o5
     have e5 := o5.size
     (repeat apply Exists.intro)
     refine ⟨?_, rfl⟩
     refine ⟨⟨_, o2, ?_⟩, o6 _ _ t9 rfl (by omega), o6 _ _ p9 rfl (by omega), by omega, o4, B5⟩
     rw [hq.out]
     simpa [encIt, List.flatMap_append, penT, eb0] using o3
    refine AllReadyIn.cons rfl (fun K hK => ?_) AllReadyIn.nil
    go_simp
    first | refine hK _ _ ?_ | refine ⟨trivial, hK _ _ ?_⟩ | refine ⟨fun _ _ => trivial, hK _ _ ?_⟩
    clear hK K
    refine wpAnyIn_ready (rs := [0, 1]) (by kernel_rfl) (by simp) ?_
    refine AllReadyIn.cons rfl (fun K hK => ?_) ?_
    ·go_simp
     first | refine hK _ _ ?_ | refine ⟨trivial, hK _ _ ?_⟩ | refine ⟨fun _ _ => trivial, hK _ _ ?_⟩
     clear hK K
     refine wpAnyIn_ready (rs := [1]) (by kernel_rfl) (by simp) ?_
     refine AllReadyIn.cons rfl (fun K hK => ?_) AllReadyIn.nil
     go_simp
     refine ⟨trivial, rfl, (callsIn_wide.2 (cM.out _ (Below_dr hB))).mono ?_⟩
     rintro e w9 ⟨rfl, b9⟩
     have v9 : Boxed w9 (n₀ + 1) 40 v := (b9.block (n₀ + 1) (by show n₀ + 1 < W.heap.size; omega)).trans hv
     have c9 := v9.cell
     have d9 := (v9.alloc (.cells #[.int .i64 3, .int .i64 4, .int .i64 0, .int .i64 0, .int .i64 d, .string ⟨#[]⟩] 49)).cell
     have r9 := (Kept.of_below b9 0).owns ((Kept.drew 0 W).owns hrow)
     have t9 := (b9.block n₀ (by show n₀ < W.heap.size; omega)).trans (show W.drew.heap[n₀]? = _ from hst)
     have s9 := cell_blk (i := 3) t9 rfl
     have p9 := (b9.block (n₀ + 1 + 1) (by show n₀ + 1 + 1 < W.heap.size; omega)).trans (show W.drew.heap[n₀ + 1 + 1]? = _ from hpc)
     have B9 := (Below_dr hB).trans (b9.mono (by show n₀ ≤ W.heap.size; omega))
     have z9 : W.heap.size ≤ w9.heap.size := b9.size
     first | refine hK _ _ ?_ | refine ⟨trivial, hK _ _ ?_⟩ | refine ⟨fun _ _ => trivial, hK _ _ ?_⟩
     clear hK K
     refine wpAnyIn_take (i := 4) (oi := ⟨some 18, _, _, _, _, _⟩) (v := ?_) rfl rfl (by kernel_rfl) (by kernel_rfl) (by kernel_rfl) (fun _ _ _ h => h) ⟨Or.inl ⟨by rfl, ?_⟩, fun _ => rfl⟩ ?_
     rotate_left
     ·intro w; go_simp <;> with_reducible rfl
     try simp only [Act.put, List.setIfInBounds_toArray, List.set_cons_zero, List.set_cons_succ]
     refine wpAnyIn_ready (rs := [5]) (by kernel_rfl) (by simp) ?_
     refine AllReadyIn.cons rfl (fun K hK => ?_) AllReadyIn.nil
     go_simp
     first | refine hK _ _ ?_ | refine ⟨trivial, hK _ _ ?_⟩ | refine ⟨fun _ _ => trivial, hK _ _ ?_⟩
     clear hK K
     refine wpAnyIn_ready (rs := [6]) (by kernel_rfl) (by simp) ?_
     refine BigFrame.allReadyIn_want rfl (by rfl) (fun K hK => ?_) AllReadyIn.nil
     refine wpIn_append_own _ _ 40 rfl n₀ 49 i0 (.agg #[.int .i64 0, .int .i64 0, .int .i64 0, .int .i64 0, .int .i64 0, .string ⟨#[]⟩]) 6 56 Tryz.underlying40 hi hz0 hz1 hz2 rfl (by decide) _ _ _ rfl (r9.alloc _) ⟨_, 0, none⟩ 1 1 [.int .i64 3, .int .i64 4, .int .i64 0, .int .i64 0, .int .i64 d, .string ⟨#[]⟩] rfl rfl (cells_new _ _ _) (by simp [Value.oneCell']) (by unfold maxLen; omega) (by omega) (by simp; omega) (fun v' w2 hown hgr _ => hK _ _ ?_)
     have hgr2 : World.grownBy _ w2 v.ownBlock := hgr
     obtain ⟨g2, c2, rfl⟩ := ownsRow_succ hown
     obtain ⟨o1, o2, o3, o4, o5, o6⟩ := grow_box (N := fun t => t == 3) W0.heap.size ((KeepsX.drew _ W).trans (KeepsX.of_below _ b9)) v9 (by decide) r9 (by omega) (by omega) hown hgr2 rfl rfl
     have oc := o1.cell
     have of := o1.frozen
     clear hK K
     refine wpAnyIn_ready (rs := [7]) (by kernel_rfl) (by simp) ?_
     refine AllReadyIn.cons rfl (fun K hK => ?_) AllReadyIn.nil
     go_simp
     first | refine hK _ _ ?_ | refine ⟨trivial, hK _ _ ?_⟩ | refine ⟨fun _ _ => trivial, hK _ _ ?_⟩
     clear hK K
     refine wpAnyIn_done (by kernel_rfl) ?_ _
     first | refine hK2 _ _ (Met.intro (hJ2 _ _ ?_)) | refine Met.intro (hJ2 _ _ ?_) | refine hJ2 _ _ ?_
     have B5 := B9.trans o5
     have e5 := o5.size
     (repeat apply Exists.intro)
     refine ⟨?_, rfl⟩
     refine ⟨⟨_, o2, ?_⟩, o6 _ _ t9 rfl (by omega), o6 _ _ p9 rfl (by omega), by omega, o4, B5⟩
     rw [hq.out]
     simpa [encIt, List.flatMap_append, penT, eb0] using o3
    refine AllReadyIn.cons rfl (fun K hK => ?_) AllReadyIn.nil
    go_simp
    refine ⟨trivial, rfl, (callsIn_wide.2 (cM.out _ (Below_dr hB))).mono ?_⟩
    rintro e w9 ⟨rfl, b9⟩
    have v9 : Boxed w9 (n₀ + 1) 40 v := (b9.block (n₀ + 1) (by show n₀ + 1 < W.heap.size; omega)).trans hv
    have c9 := v9.cell
    have d9 := (v9.alloc (.cells #[.int .i64 3, .int .i64 4, .int .i64 0, .int .i64 0, .int .i64 d, .string ⟨#[]⟩] 49)).cell
    have r9 := (Kept.of_below b9 0).owns ((Kept.drew 0 W).owns hrow)
    have t9 := (b9.block n₀ (by show n₀ < W.heap.size; omega)).trans (show W.drew.heap[n₀]? = _ from hst)
    have s9 := cell_blk (i := 3) t9 rfl
    have p9 := (b9.block (n₀ + 1 + 1) (by show n₀ + 1 + 1 < W.heap.size; omega)).trans (show W.drew.heap[n₀ + 1 + 1]? = _ from hpc)
    have B9 := (Below_dr hB).trans (b9.mono (by show n₀ ≤ W.heap.size; omega))
    have z9 : W.heap.size ≤ w9.heap.size := b9.size
    first | refine hK _ _ ?_ | refine ⟨trivial, hK _ _ ?_⟩ | refine ⟨fun _ _ => trivial, hK _ _ ?_⟩
    clear hK K
    refine wpAnyIn_take (i := 4) (oi := ⟨some 18, _, _, _, _, _⟩) (v := ?_) rfl rfl (by kernel_rfl) (by kernel_rfl) (by kernel_rfl) (fun _ _ _ h => h) ⟨Or.inl ⟨by rfl, ?_⟩, fun _ => rfl⟩ ?_
    rotate_left
    ·intro w; go_simp <;> with_reducible rfl
    try simp only [Act.put, List.setIfInBounds_toArray, List.set_cons_zero, List.set_cons_succ]
    refine wpAnyIn_ready (rs := [0, 5]) (by kernel_rfl) (by simp) ?_
    refine AllReadyIn.cons rfl (fun K hK => ?_) ?_
    ·go_simp
     first | refine hK _ _ ?_ | refine ⟨trivial, hK _ _ ?_⟩ | refine ⟨fun _ _ => trivial, hK _ _ ?_⟩
     clear hK K
     refine wpAnyIn_ready (rs := [5]) (by kernel_rfl) (by simp) ?_
     refine AllReadyIn.cons rfl (fun K hK => ?_) AllReadyIn.nil
     go_simp
     first | refine hK _ _ ?_ | refine ⟨trivial, hK _ _ ?_⟩ | refine ⟨fun _ _ => trivial, hK _ _ ?_⟩
     clear hK K
     refine wpAnyIn_ready (rs := [6]) (by kernel_rfl) (by simp) ?_
     refine BigFrame.allReadyIn_want rfl (by rfl) (fun K hK => ?_) AllReadyIn.nil
     refine wpIn_append_own _ _ 40 rfl n₀ 49 i0 (.agg #[.int .i64 0, .int .i64 0, .int .i64 0, .int .i64 0, .int .i64 0, .string ⟨#[]⟩]) 6 56 Tryz.underlying40 hi hz0 hz1 hz2 rfl (by decide) _ _ _ rfl (r9.alloc _) ⟨_, 0, none⟩ 1 1 [.int .i64 3, .int .i64 4, .int .i64 0, .int .i64 0, .int .i64 d, .string ⟨#[]⟩] rfl rfl (cells_new _ _ _) (by simp [Value.oneCell']) (by unfold maxLen; omega) (by omega) (by simp; omega) (fun v' w2 hown hgr _ => hK _ _ ?_)
     have hgr2 : World.grownBy _ w2 v.ownBlock := hgr
     obtain ⟨g2, c2, rfl⟩ := ownsRow_succ hown
     obtain ⟨o1, o2, o3, o4, o5, o6⟩ := grow_box (N := fun t => t == 3) W0.heap.size ((KeepsX.drew _ W).trans (KeepsX.of_below _ b9)) v9 (by decide) r9 (by omega) (by omega) hown hgr2 rfl rfl
     have oc := o1.cell
     have of := o1.frozen
     clear hK K
     refine wpAnyIn_ready (rs := [7]) (by kernel_rfl) (by simp) ?_
     refine AllReadyIn.cons rfl (fun K hK => ?_) AllReadyIn.nil
     go_simp
     first | refine hK _ _ ?_ | refine ⟨trivial, hK _ _ ?_⟩ | refine ⟨fun _ _ => trivial, hK _ _ ?_⟩
     clear hK K
     refine wpAnyIn_done (by kernel_rfl) ?_ _
     first | refine hK2 _ _ (Met.intro (hJ2 _ _ ?_)) | refine Met.intro (hJ2 _ _ ?_) | refine hJ2 _ _ ?_
     have B5 := B9.trans o5
     have e5 := o5.size
     (repeat apply Exists.intro)
     refine ⟨?_, rfl⟩
     refine ⟨⟨_, o2, ?_⟩, o6 _ _ t9 rfl (by omega), o6 _ _ p9 rfl (by omega), by omega, o4, B5⟩
     rw [hq.out]
     simpa [encIt, List.flatMap_append, penT, eb0] using o3
    refine AllReadyIn.cons rfl (fun K hK => ?_) AllReadyIn.nil
    go_simp
    first | refine hK _ _ ?_ | refine ⟨trivial, hK _ _ ?_⟩ | refine ⟨fun _ _ => trivial, hK _ _ ?_⟩
    clear hK K
    refine wpAnyIn_ready (rs := [0]) (by kernel_rfl) (by simp) ?_
    refine AllReadyIn.cons rfl (fun K hK => ?_) AllReadyIn.nil
    go_simp
    first | refine hK _ _ ?_ | refine ⟨trivial, hK _ _ ?_⟩ | refine ⟨fun _ _ => trivial, hK _ _ ?_⟩
    clear hK K
    refine wpAnyIn_ready (rs := [6]) (by kernel_rfl) (by simp) ?_
    refine BigFrame.allReadyIn_want rfl (by rfl) (fun K hK => ?_) AllReadyIn.nil
    refine wpIn_append_own _ _ 40 rfl n₀ 49 i0 (.agg #[.int .i64 0, .int .i64 0, .int .i64 0, .int .i64 0, .int .i64 0, .string ⟨#[]⟩]) 6 56 Tryz.underlying40 hi hz0 hz1 hz2 rfl (by decide) _ _ _ rfl (r9.alloc _) ⟨_, 0, none⟩ 1 1 [.int .i64 3, .int .i64 4, .int .i64 0, .int .i64 0, .int .i64 d, .string ⟨#[]⟩] rfl rfl (cells_new _ _ _) (by simp [Value.oneCell']) (by unfold maxLen; omega) (by omega) (by simp; omega) (fun v' w2 hown hgr _ => hK _ _ ?_)
    have hgr2 : World.grownBy _ w2 v.ownBlock := hgr
    obtain ⟨g2, c2, rfl⟩ := ownsRow_succ hown
    obtain ⟨o1, o2, o3, o4, o5, o6⟩ := grow_box (N := fun t => t == 3) W0.heap.size ((KeepsX.drew _ W).trans (KeepsX.of_below _ b9)) v9 (by decide) r9 (by omega) (by omega) hown hgr2 rfl rfl
    have oc := o1.cell
    have of := o1.frozen
    clear hK K
    refine wpAnyIn_ready (rs := [7]) (by kernel_rfl) (by simp) ?_
    refine AllReadyIn.cons rfl (fun K hK => ?_) AllReadyIn.nil
    go_simp
    first | refine hK _ _ ?_ | refine ⟨trivial, hK _ _ ?_⟩ | refine ⟨fun _ _ => trivial, hK _ _ ?_⟩
    clear hK K
    refine wpAnyIn_done (by kernel_rfl) ?_ _
    first | refine hK2 _ _ (Met.intro (hJ2 _ _ ?_)) | refine Met.intro (hJ2 _ _ ?_) | refine hJ2 _ _ ?_
    have B5 := B9.trans o5
    have e5 := o5.size
    (repeat apply Exists.intro)
    refine ⟨?_, rfl⟩
    refine ⟨⟨_, o2, ?_⟩, o6 _ _ t9 rfl (by omega), o6 _ _ p9 rfl (by omega), by omega, o4, B5⟩
    rw [hq.out]
    simpa [encIt, List.flatMap_append, penT, eb0] using o3
    -- end region 6
   ·have h0I : ¬ (0 : Int) < i := by omega
    have hq : L1 = L0 := by rw [← hL1.out, if_neg h0i, List.append_nil]
    gi_wp2_with (fail)
    gi_meet
    rw [hq]
    exact ⟨⟨_, hv, hrow⟩, hst, hpc, hsz, KeepsX.refl _ _, hB⟩
  case rest =>
   obtain ⟨⟨v1, hv1, hrow1⟩, hst1, hpc1, hsz1, hkx1, hB1⟩ := hcut
   have hc1 := hv1.cell
   have cB1 := hid (fun W (h : Below n₀ w W) => cB.out W hpl.2 h)
   rw [heT] at cB1
   clear hv hrow hst hpc hsz hB hc sc
   gi_upto_region 7 with (fail)
   -- region 7
   refine region_out (by kernel_rfl) (by kernel_rfl) rfl ?_
   refine wpAnyIn_take (i := 1) (oi := ⟨some 22, _, _, _, _, _⟩) (v := ?_) rfl rfl (by kernel_rfl) (by kernel_rfl) (by kernel_rfl) (fun _ _ _ h => h) ⟨Or.inl ⟨by rfl, ?_⟩, fun _ => rfl⟩ ?_
   rotate_left
   ·intro w; go_simp <;> with_reducible rfl
   try simp only [Act.put, List.setIfInBounds_toArray, List.set_cons_zero, List.set_cons_succ]
   refine wpAnyIn_ready (rs := [0, 2]) (by kernel_rfl) (by simp) ?_
   refine AllReadyIn.cons rfl (fun K hK => ?_) ?_
   ·go_simp
    first | refine hK _ _ ?_ | refine ⟨trivial, hK _ _ ?_⟩ | refine ⟨fun _ _ => trivial, hK _ _ ?_⟩
    clear hK K
    refine wpAnyIn_ready (rs := [2]) (by kernel_rfl) (by simp) ?_
    refine AllReadyIn.cons rfl (fun K hK => ?_) AllReadyIn.nil
    go_simp
    refine ⟨trivial, rfl, (callsIn_wide.2 (cB1.out _ (Below_dr hB1))).mono ?_⟩
    rintro e w9 ⟨rfl, b9⟩
    have v9 : Boxed w9 (n₀ + 1) 40 v1 := (b9.block (n₀ + 1) (by show n₀ + 1 < wc.heap.size; omega)).trans hv1
    have c9 := v9.cell
    have d9 := (v9.alloc (.cells #[.int .i64 1, .int .i64 n, .int .i64 0, .int .i64 0, .int .i64 0, .string T] 49)).cell
    have r9 := (Kept.of_below b9 0).owns ((Kept.drew 0 wc).owns hrow1)
    have t9 := (b9.block n₀ (by show n₀ < wc.heap.size; omega)).trans (show wc.drew.heap[n₀]? = _ from hst1)
    have s9 := cell_blk (i := 3) t9 rfl
    have p9 := (b9.block (n₀ + 1 + 1) (by show n₀ + 1 + 1 < wc.heap.size; omega)).trans (show wc.drew.heap[n₀ + 1 + 1]? = _ from hpc1)
    have B9 := (Below_dr hB1).trans (b9.mono (by show n₀ ≤ wc.heap.size; omega))
    have z9 : wc.heap.size ≤ w9.heap.size := b9.size
    first | refine hK _ _ ?_ | refine ⟨trivial, hK _ _ ?_⟩ | refine ⟨fun _ _ => trivial, hK _ _ ?_⟩
    clear hK K
    refine wpAnyIn_ready (rs := [3]) (by kernel_rfl) (by simp) ?_
    refine AllReadyIn.cons rfl (fun K hK => ?_) AllReadyIn.nil
    go_simp
    first | refine hK _ _ ?_ | refine ⟨trivial, hK _ _ ?_⟩ | refine ⟨fun _ _ => trivial, hK _ _ ?_⟩
    clear hK K
    refine wpAnyIn_ready (rs := [4]) (by kernel_rfl) (by simp) ?_
    refine BigFrame.allReadyIn_want rfl (by rfl) (fun K hK => ?_) AllReadyIn.nil
    refine wpIn_append_own _ _ 40 rfl n₀ 49 i0 (.agg #[.int .i64 0, .int .i64 0, .int .i64 0, .int .i64 0, .int .i64 0, .string ⟨#[]⟩]) 6 56 Tryz.underlying40 hi hz0 hz1 hz2 rfl (by decide) _ _ _ rfl (r9.alloc _) ⟨_, 0, none⟩ 1 1 [.int .i64 1, .int .i64 n, .int .i64 0, .int .i64 0, .int .i64 0, .string T] rfl rfl (cells_new _ _ _) (by simp [Value.oneCell']) (by unfold maxLen; omega) (by omega) (by simp; omega) (fun v' w2 hown hgr _ => hK _ _ ?_)
    have hgr2 : World.grownBy _ w2 v1.ownBlock := hgr
    obtain ⟨g2, c2, rfl⟩ := ownsRow_succ hown
    obtain ⟨o1, o2, o3, o4, o5, o6⟩ := grow_box (N := fun t => t == 3) W0.heap.size (hkx1.trans <| (KeepsX.drew _ wc).trans (KeepsX.of_below _ b9)) v9 (by decide) r9 (by omega) (by omega) hown hgr2 rfl rfl
    have oc := o1.cell
    have of := o1.frozen
    clear hK K
    refine wpAnyIn_ready (rs := [5]) (by kernel_rfl) (by simp) ?_
    refine AllReadyIn.cons rfl (fun K hK => ?_) AllReadyIn.nil
    go_simp
    first | refine hK _ _ ?_ | refine ⟨trivial, hK _ _ ?_⟩ | refine ⟨fun _ _ => trivial, hK _ _ ?_⟩
    clear hK K
    refine wpAnyIn_done (by kernel_rfl) ?_ _
    gi_wp2_with (fail)
    have B5 := B9.trans o5
    have e5 := o5.size
    have q6 := o6 _ _ p9 rfl (by omega)
    refine ⟨o4, ⟨q6, hR.below (by rw [hn₀.out]; exact B5)⟩, ⟨⟨_, o2, ?_⟩, o6 _ _ t9 rfl (by omega), by omega, B5⟩⟩
    rw [hsn2.out]
    simpa [List.flatMap_append, heT] using o3
   refine AllReadyIn.cons rfl (fun K hK => ?_) AllReadyIn.nil
   go_simp
   refine ⟨trivial, rfl, (callsIn_wide.2 (cB1.out _ (Below_dr hB1))).mono ?_⟩
   rintro e w9 ⟨rfl, b9⟩
   have v9 : Boxed w9 (n₀ + 1) 40 v1 := (b9.block (n₀ + 1) (by show n₀ + 1 < wc.heap.size; omega)).trans hv1
   have c9 := v9.cell
   have d9 := (v9.alloc (.cells #[.int .i64 1, .int .i64 n, .int .i64 0, .int .i64 0, .int .i64 0, .string T] 49)).cell
   have r9 := (Kept.of_below b9 0).owns ((Kept.drew 0 wc).owns hrow1)
   have t9 := (b9.block n₀ (by show n₀ < wc.heap.size; omega)).trans (show wc.drew.heap[n₀]? = _ from hst1)
   have s9 := cell_blk (i := 3) t9 rfl
   have p9 := (b9.block (n₀ + 1 + 1) (by show n₀ + 1 + 1 < wc.heap.size; omega)).trans (show wc.drew.heap[n₀ + 1 + 1]? = _ from hpc1)
   have B9 := (Below_dr hB1).trans (b9.mono (by show n₀ ≤ wc.heap.size; omega))
   have z9 : wc.heap.size ≤ w9.heap.size := b9.size
   first | refine hK _ _ ?_ | refine ⟨trivial, hK _ _ ?_⟩ | refine ⟨fun _ _ => trivial, hK _ _ ?_⟩
   clear hK K
   refine wpAnyIn_ready (rs := [0, 3]) (by kernel_rfl) (by simp) ?_
   refine AllReadyIn.cons rfl (fun K hK => ?_) ?_
   ·go_simp
    first | refine hK _ _ ?_ | refine ⟨trivial, hK _ _ ?_⟩ | refine ⟨fun _ _ => trivial, hK _ _ ?_⟩
    clear hK K
    refine wpAnyIn_ready (rs := [3]) (by kernel_rfl) (by simp) ?_
    refine AllReadyIn.cons rfl (fun K hK => ?_) AllReadyIn.nil
    go_simp
    first | refine hK _ _ ?_ | refine ⟨trivial, hK _ _ ?_⟩ | refine ⟨fun _ _ => trivial, hK _ _ ?_⟩
    clear hK K
    refine wpAnyIn_ready (rs := [4]) (by kernel_rfl) (by simp) ?_
    refine BigFrame.allReadyIn_want rfl (by rfl) (fun K hK => ?_) AllReadyIn.nil
    refine wpIn_append_own _ _ 40 rfl n₀ 49 i0 (.agg #[.int .i64 0, .int .i64 0, .int .i64 0, .int .i64 0, .int .i64 0, .string ⟨#[]⟩]) 6 56 Tryz.underlying40 hi hz0 hz1 hz2 rfl (by decide) _ _ _ rfl (r9.alloc _) ⟨_, 0, none⟩ 1 1 [.int .i64 1, .int .i64 n, .int .i64 0, .int .i64 0, .int .i64 0, .string T] rfl rfl (cells_new _ _ _) (by simp [Value.oneCell']) (by unfold maxLen; omega) (by omega) (by simp; omega) (fun v' w2 hown hgr _ => hK _ _ ?_)
    have hgr2 : World.grownBy _ w2 v1.ownBlock := hgr
    obtain ⟨g2, c2, rfl⟩ := ownsRow_succ hown
    obtain ⟨o1, o2, o3, o4, o5, o6⟩ := grow_box (N := fun t => t == 3) W0.heap.size (hkx1.trans <| (KeepsX.drew _ wc).trans (KeepsX.of_below _ b9)) v9 (by decide) r9 (by omega) (by omega) hown hgr2 rfl rfl
    have oc := o1.cell
    have of := o1.frozen
    clear hK K
    refine wpAnyIn_ready (rs := [5]) (by kernel_rfl) (by simp) ?_
    refine AllReadyIn.cons rfl (fun K hK => ?_) AllReadyIn.nil
    go_simp
    first | refine hK _ _ ?_ | refine ⟨trivial, hK _ _ ?_⟩ | refine ⟨fun _ _ => trivial, hK _ _ ?_⟩
    clear hK K
    refine wpAnyIn_done (by kernel_rfl) ?_ _
    gi_wp2_with (fail)
    have B5 := B9.trans o5
    have e5 := o5.size
    have q6 := o6 _ _ p9 rfl (by omega)
    refine ⟨o4, ⟨q6, hR.below (by rw [hn₀.out]; exact B5)⟩, ⟨⟨_, o2, ?_⟩, o6 _ _ t9 rfl (by omega), by omega, B5⟩⟩
    rw [hsn2.out]
    simpa [List.flatMap_append, heT] using o3
   refine AllReadyIn.cons rfl (fun K hK => ?_) AllReadyIn.nil
   go_simp
   first | refine hK _ _ ?_ | refine ⟨trivial, hK _ _ ?_⟩ | refine ⟨fun _ _ => trivial, hK _ _ ?_⟩
   clear hK K
   refine wpAnyIn_ready (rs := [0]) (by kernel_rfl) (by simp) ?_
   refine AllReadyIn.cons rfl (fun K hK => ?_) AllReadyIn.nil
   go_simp
   first | refine hK _ _ ?_ | refine ⟨trivial, hK _ _ ?_⟩ | refine ⟨fun _ _ => trivial, hK _ _ ?_⟩
   clear hK K
   refine wpAnyIn_ready (rs := [4]) (by kernel_rfl) (by simp) ?_
   refine BigFrame.allReadyIn_want rfl (by rfl) (fun K hK => ?_) AllReadyIn.nil
   refine wpIn_append_own _ _ 40 rfl n₀ 49 i0 (.agg #[.int .i64 0, .int .i64 0, .int .i64 0, .int .i64 0, .int .i64 0, .string ⟨#[]⟩]) 6 56 Tryz.underlying40 hi hz0 hz1 hz2 rfl (by decide) _ _ _ rfl (r9.alloc _) ⟨_, 0, none⟩ 1 1 [.int .i64 1, .int .i64 n, .int .i64 0, .int .i64 0, .int .i64 0, .string T] rfl rfl (cells_new _ _ _) (by simp [Value.oneCell']) (by unfold maxLen; omega) (by omega) (by simp; omega) (fun v' w2 hown hgr _ => hK _ _ ?_)
   have hgr2 : World.grownBy _ w2 v1.ownBlock := hgr
   obtain ⟨g2, c2, rfl⟩ := ownsRow_succ hown
   obtain ⟨o1, o2, o3, o4, o5, o6⟩ := grow_box (N := fun t => t == 3) W0.heap.size (hkx1.trans <| (KeepsX.drew _ wc).trans (KeepsX.of_below _ b9)) v9 (by decide) r9 (by omega) (by omega) hown hgr2 rfl rfl
   have oc := o1.cell
   have of := o1.frozen
   clear hK K
   refine wpAnyIn_ready (rs := [5]) (by kernel_rfl) (by simp) ?_
   refine AllReadyIn.cons rfl (fun K hK => ?_) AllReadyIn.nil
   go_simp
   first | refine hK _ _ ?_ | refine ⟨trivial, hK _ _ ?_⟩ | refine ⟨fun _ _ => trivial, hK _ _ ?_⟩
   clear hK K
   refine wpAnyIn_done (by kernel_rfl) ?_ _
   gi_wp2_with (fail)
   have B5 := B9.trans o5
   have e5 := o5.size
   have q6 := o6 _ _ p9 rfl (by omega)
   refine ⟨o4, ⟨q6, hR.below (by rw [hn₀.out]; exact B5)⟩, ⟨⟨_, o2, ?_⟩, o6 _ _ t9 rfl (by omega), by omega, B5⟩⟩
   rw [hsn2.out]
   simpa [List.flatMap_append, heT] using o3
   -- end region 7
end Go.Proofs.YtempicociampoaaGreatDoor
