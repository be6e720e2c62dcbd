/- The walks of slices.AppendSeq and Collect, of items whose iterator keeps a list of its own. -/
import Derived.Test.YtjkfefjfmocekaaDoorRangeM
import Derived.Test.YtjkfefjfmocekaaDoorSetI
namespace Go.Proofs.YtjkfefjfmocekaaDoor
open Go.RowKit Go.Shelf
attribute [local go_sem] Oper.semAt_some

theorem owns_downM {W : World} {b b' : Nat} {e : TypeId} {size : Nat} {v : Value} {n : Nat} {xs : List Value} (hb : b' ≤ b) (h : W.ownsRow b e size v n xs) : W.ownsRow b' e size v n xs := by
  obtain ⟨h1, h2⟩ := h
  refine ⟨h1, ?_⟩
  rcases h2 with h2 | ⟨g, cap, cur, hv, hg, r⟩
  · exact .inl h2
  · exact .inr ⟨g, cap, cur, hv, Nat.le_trans hb hg, r⟩

set_option maxRecDepth 100000 in
set_option maxHeartbeats 2000000 in
theorem AppendSeqM_any (w : World) (gf : Nat) (lb : Array Value) (R : World → Prop) (L : List It) (hL : L.length ≤ 100000)
    (eg : ∀ args w, (callFunc gf args).run Tryd.prog w = .ok (.enter gf args) w) (hR : ∀ B, St B R) (hRB : ∀ W, Below w.heap.size w W → R W)
    (hseq : SeqM Tryd.prog gf lb itEnc R (fun pre x _ => pre ++ [x] <+: L) (fun xs _ => xs = L) (fun _ _ => True)) :
    Calls Tryd.prog 23 #[.slice none 0 0, .func (.func gf) #[] lb] w fun e w' => ∃ v, e = .returned v ∧ Sl w' 6 encIt v L ∧ w'.ownsRow w.heap.size 34 6 v L.length (L.flatMap encIt) ∧ Below w.heap.size w w' := by
  obtain ⟨i0, hi, hz0, hz1, hz2⟩ := info_parts Tryd.infoIt
  refine calls_of_marks Tryd.func23 rfl ?_
  simp only [Tryd.ntmps23, List.size_toArray, List.length_cons, List.length_nil, Nat.reduceAdd, Nat.reduceSub, Array.replicate_succ, Array.replicate_zero, List.push_toArray, List.append_toArray, List.nil_append, List.cons_append]
  gi_wp2_with (fail)
  have bO := Boxed.new w 30 (.slice none 0 0)
  have hB0 : Below w.heap.size w (w.alloc (.cells #[.slice none 0 0] 30)) := (Below.refl _ w).alloc (Nat.le_refl _) _
  refine range_boxM rfl eg hseq (fun _ => rfl)
    (fun M pre W => (∃ v, Boxed W w.heap.size 30 v ∧ W.ownsRow M 34 6 v pre.length (pre.flatMap encIt)) ∧ M ≤ W.heap.size ∧ w.heap.size ≤ M ∧ w.heap.size + 1 ≤ W.heap.size ∧ Below w.heap.size w W)
    (fun W => Boxed W w.heap.size 30 (.slice none 0 0) ∧ w.heap.size + 1 ≤ W.heap.size ∧ Below w.heap.size w W)
    (fun _ _ _ => False) ?hI ?hI0 ?hI1 (fun _ _ _ _ _ h => h) hR (fun _ _ => St.pure _) (fun _ => St.pure _) (fun _ => St.pure _) ?hsz ?h0 (hRB _ hB0)
    ?mk (fun x => (encIt x).toArray) 34 ?assign ?body ?done ?stop
  case assign =>
    intro l x j W K hj hK
    dsimp only [itEnc, encIt] at hK ⊢
    gi_wp2
    exact hK
  case hI =>
    rintro M s A C hk ⟨⟨v, h1, h2⟩, h5, h6, h3, h4⟩
    exact ⟨⟨v, hk.same _ _ h1 (.inl rfl), hk.owns h2⟩, Nat.le_trans h5 hk.size, h6, Nat.le_trans h3 hk.size, hk.below (by simp) (Nat.le_refl _) h4⟩
  case hI0 =>
    rintro A C hk ⟨h1, h3, h4⟩
    exact ⟨hk.same _ _ h1 (.inl rfl), Nat.le_trans h3 hk.size, hk.below (by simp) (Nat.le_refl _) h4⟩
  case hI1 =>
    rintro M W ⟨h1, h3, h4⟩ hM0 hM
    exact ⟨⟨_, h1, World.ownsRow_nil _ _ _ _⟩, hM, by simp at hM0; omega, h3, h4⟩
  case hsz => exact fun _ _ _ h => by have := h.2.2.2.1; simp; omega
  case h0 => exact ⟨bO, by simp, hB0⟩
  case body =>
    rintro l M pre x j W hl2 hM1 _ ⟨⟨v, hv, hrow⟩, hMs, -, hsz, hB⟩ hR' hadm hj hx
    have hpl : pre.length + 1 ≤ 100000 := by
      obtain ⟨t, ht⟩ := hadm
      have := congrArg List.length ht
      simp at this; omega
    have hMw : w.heap.size + 1 ≤ M := by simpa using hM1
    have hc := hv.cell
    dsimp only [encIt] at hx ⊢
    have x1 := cell_blk (i := 0) hx rfl
    have x2 := cell_blk (i := 1) hx rfl
    have x3 := cell_blk (i := 2) hx rfl
    have x4 := cell_blk (i := 3) hx rfl
    have x5 := cell_blk (i := 4) hx rfl
    have x6 := cell_blk (i := 5) hx rfl
    clear hadm hL hM1
    gi_wp2_with (gi_at_builtin; go_must (refine wpListIn_append_own _ rfl _ _ 30 rfl M 34 i0 (.agg #[.int .i64 0, .int .i64 0, .int .i64 0, .int .i64 0, .int .i64 0, .string ⟨#[]⟩]) 6 56 Tryd.underlying30 hi hz0 hz1 hz2 rfl (by decide) _ _ _ rfl (hrow.alloc _) ⟨W.heap.size, 0, none⟩ 1 1 [.int .i64 x.kind, .int .i64 x.w, .int .i64 x.y, .int .i64 x.z, .int .i64 x.cost, .string x.text] rfl rfl ?_ (by simp [Value.oneCell']) (by unfold maxLen; omega) (by omega) (by simp; omega) ?_; rotate_left; intro v' w1 hown' hgrow _; obtain ⟨g', cap', rfl⟩ := ownsRow_succ hown'; obtain ⟨hv1, hv2, hr2, hk2, hb2⟩ := hv.appended (by decide) (owns_downM (b' := w.heap.size) (by omega) hrow) hB.size (Nat.le_refl _) (owns_downM (b' := w.heap.size) (by omega) hown') hgrow; have hkx : KeepsM M (w.heap.size + 1) W w1 := (KeepsM.alloc _ _ _ _).trans (KeepsM.grown _ (hrow.alloc _) hgrow); have hc1 := hv1.cell; have hf1 := hv1.frozen))
    · have hB2 := hB.trans hb2
      have hg2 : M ≤ (w1.setCell ⟨w.heap.size, 0, none⟩ (.slice (some ⟨g', 0, none⟩) (pre.length + 1) cap')).heap.size := Nat.le_trans hMs hb2.size
      refine ⟨(hkx.trans (KeepsM.setCell _ _ hv1 (.inl (by omega)) _)).mono (by simp), hRB _ hB2, ⟨_, hv2, ?_⟩, hg2, by omega, Nat.le_trans hsz hb2.size, hB2⟩
      have hne : w.heap.size < M := by omega
      obtain ⟨o1, o2⟩ := hown'
      refine ⟨by simpa [encIt] using hr2.1, ?_⟩
      rcases o2 with ⟨e0, e1⟩ | ⟨g, cap, cur, e0, hg, hh, r⟩
      · cases e0
      · cases e0
        refine .inr ⟨g', cap', cur, by simp, hg, (setCell_off (by omega)).trans hh, ?_⟩
        simpa [encIt] using r
    · exact cells_new W _ _
  case done =>
    rintro D M ys W hD rfl ⟨⟨v, hv, hrow⟩, hMs, hMb, hsz, hB⟩ hR' hK
    have hc := hv.cell
    have hrow2 := owns_downM hMb hrow
    have hsl := sl_of_owns (enc := encIt) (fun _ _ => rfl) hrow
    gi_wp2
    refine leave1 hK (fun _ _ => results_tmp rfl _ _ _) ⟨_, rfl, ?_, ?_, ?_⟩
    · exact (Kept.putObj (B := 0) _ (Nat.zero_le _) hK rfl).sl hsl
    · exact (Kept.putObj (B := 0) _ (Nat.zero_le _) hK rfl).owns hrow2
    · exact (Kept.putObj (B := w.heap.size) (.deferred none) (by simp at hD; omega) hK rfl).below (Nat.le_refl _) (Nat.le_refl _) hB
  case stop =>
    rintro D c pre W _ _ h _
    exact h.elim

set_option maxRecDepth 100000 in
set_option maxHeartbeats 2000000 in
theorem CollectM_any (w : World) (gf : Nat) (lb : Array Value) (R : World → Prop) (L : List It) (hL : L.length ≤ 100000)
    (eg : ∀ args w, (callFunc gf args).run Tryd.prog w = .ok (.enter gf args) w) (hR : ∀ B, St B R) (hRB : ∀ W, Below w.heap.size w W → R W)
    (hseq : SeqM Tryd.prog gf lb itEnc R (fun pre x _ => pre ++ [x] <+: L) (fun xs _ => xs = L) (fun _ _ => True)) :
    Calls Tryd.prog 13 #[.func (.func gf) #[] lb] w fun e w' => ∃ v, e = .returned v ∧ Sl w' 6 encIt v L ∧ w'.ownsRow w.heap.size 34 6 v L.length (L.flatMap encIt) ∧ Below w.heap.size w w' := by
  have hc := hid (AppendSeqM_any w gf lb R L hL eg hR hRB hseq)
  clear hseq eg
  go_enter Tryd.func13, Tryd.ntmps13
  go_wp2_with (fail)
  refine hc.out.mono ?_
  rintro e w' ⟨v, rfl, h1, h2, h3⟩
  go_wp2
  go_ret
  exact ⟨_, rfl, h1, h2, h3⟩
end Go.Proofs.YtjkfefjfmocekaaDoor
