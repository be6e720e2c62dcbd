/- The walks of a line's words: the iterator. -/
import Derived.Test.YtgbfekimflnaiaaDoorMkA
import Derived.Test.YtgbfekimflnaiaaDoorRangeQ
import Derived.Test.YtgbfekimflnaiaaDoorMkP
namespace Go.Proofs.YtgbfekimflnaiaaDoor
open Go.RowKit Go.Shelf
attribute [local go_sem] Oper.semAt_some

/-- a line's words -/
def wdsB (s : ByteArray) : List ByteArray := (pcsB 32 s).filter fun w => !(w.size == 0)
theorem wdsB_words (s : ByteArray) : wdsB s = (wordsL s.data.toList).map toB := by
  unfold wdsB wordsL pcsB
  rw [List.filter_map]
  congr 1
  apply List.filter_congr
  intro x _
  cases x <;> simp [toB_size]
theorem wdsB_len (s : ByteArray) : (wdsB s).length ≤ s.size + 1 := by
  rw [wdsB_words, List.length_map, ← size8]
  exact wordsL_len _

set_option maxRecDepth 100000 in
set_option maxHeartbeats 4000000 in
theorem words1_seq (s : ByteArray) (hs : s.size ≤ 1000000) (bl : Nat) :
    SeqQ Tryd.prog 46 #[.pointer (some ⟨bl, 0, none⟩)] strEnc (fun W => W.heap[bl]? = some (.cells #[.string s] 9 (0, 0)))
      (fun pre x _ => pre ++ [x] <+: wdsB s) (fun xs _ => xs = wdsB s) (fun _ _ => True) := by
  intro L J0 J Jx W hJ0 hJ hJx hM hY h0 hR0
  have hbl : bl < W.heap.size := (Array.getElem?_eq_some_iff.1 hR0).1
  have q0 : W.cell? ⟨bl, 0, none⟩ = some (.string s) := cell_blk (i := 0) hR0 rfl
  refine calls_of_marks Tryd.func46 rfl ?_
  simp only [Tryd.ntmps46, List.size_toArray, List.length_cons, List.length_nil, Nat.reduceAdd, Nat.reduceSub, Array.replicate_succ, Array.replicate_zero, List.push_toArray, List.append_toArray, List.nil_append, List.cons_append]
  have b1 := World.alloc_heap_new W (.cells #[.func (.yield L) #[] #[]] 45)
  obtain ⟨W1, hW1⟩ : ∃ V, W.alloc (.cells #[.func (.yield L) #[] #[]] 45) = V := ⟨_, rfl⟩
  rw [hW1] at b1
  have hk1 : Kept W.heap.size W W1 := by rw [← hW1]; exact Kept.alloc _ _ _
  have hz1 : W1.heap.size = W.heap.size + 1 := by rw [← hW1]; simp
  have q1 : W1.cell? ⟨bl, 0, none⟩ = some (.string s) := hk1.cell q0
  have hc := hid (SplitSeq_any 32 s W1)
  gi_wp2_with (fail)
  refine ⟨trivial, rfl, (callsIn_wide.2 hc.out).mono ?_⟩
  rintro e W2 ⟨rfl, hSp, hbs, hz2, hB2⟩
  have hk2 : Kept W.heap.size W W2 := hk1.trans (Kept.of_below hB2 _)
  have b2 := (Kept.of_below hB2 0).same _ _ b1 (.inl rfl)
  rw [hz1] at hz2 hSp hbs ⊢
  clear hc b1 q0 q1 hB2 hW1 hk1
  gi_wp2_with (fail)
  refine range_pB (act := ?mk) rfl (enters_of Tryd.func49 (by kernel_rfl) rfl) (split1_seq 32 s hs (W.heap.size + 1 + 1) (W.heap.size + 1) (W.heap.size + 1 + 2) (by omega) (by omega)) (fun _ => rfl)
    (fun pre V => J (W.heap.size + 4) (pre.filter fun w => !(w.size == 0)) V ∧ V.heap[bl]? = some (.cells #[.string s] 9 (0, 0)) ∧ V.heap[W.heap.size]? = some (.cells #[.func (.yield L) #[] #[]] 45 (0, 0)) ∧ W.heap.size + 4 ≤ V.heap.size)
    (fun c pre V => c = .ret ∧ ∃ xs, Jx xs V)
    ?hI ?hIx (fun B => SpR.st B) (fun _ _ => St.pure _) (fun _ => St.pure _) (fun _ => St.pure _) ?h0 hSp (fun A C hk h => hk.same _ _ h (.inl rfl)) hbs (fun k hk => by simp; omega) ?assign ?body ?done ?stop
  case assign =>
    intro l x V K hK
    dsimp only [strEnc]
    gi_wp2
    exact hK
  case hI =>
    rintro pre A C hk ⟨h1, h2, h3, h4⟩
    exact ⟨hJ _ _ _ _ (hk.box (by omega) (by omega) (by omega)) h1, hk.blk h2 (by simp; omega), hk.blk h3 (by simp), Nat.le_trans h4 hk.size⟩
  case hIx =>
    rintro c pre A C hk ⟨rfl, xs, h1⟩
    exact ⟨rfl, xs, hJx _ _ _ (hk.boxF (by omega) (by omega)) h1⟩
  case h0 =>
    exact ⟨hM _ _ (hJ0 _ _ hk2 h0) (by omega) (by omega), hk2.same _ _ hR0 (.inl rfl), b2, by omega⟩
  case done =>
    rintro D xs V hD rfl ⟨h1, h2, h3, h4⟩ hR hK
    have kp := Kept.putObj (B := W.heap.size) (.deferred none) (by omega) hK rfl
    refine leave1 (fn := Tryd.f46) hK (fun _ _ => results_none rfl _ _ _) ⟨⟨_, rfl⟩, .inl ⟨_, _, rfl, hJ _ _ _ _ kp.b h1, kp.same _ _ h2 (.inl rfl)⟩⟩
  case stop =>
    rintro D c pre V hD - ⟨rfl, xs, h1⟩ hK
    have kp := Kept.putObj (B := W.heap.size) (.deferred none) (by omega) hK rfl
    gi_wp2
    refine leave1 (fn := Tryd.f46) hK (fun _ _ => results_none rfl _ _ _) ⟨⟨_, rfl⟩, .inr ⟨xs, trivial, hJx _ _ _ kp.b h1⟩⟩
  case body =>
    rintro l pre x V hl _ ⟨h1, h2, h3, h4⟩ hR hadm
    have hyc := cell_blk h3 (i := 0) rfl
    by_cases hx : x.size = 0
    · have hx0 : x = ⟨#[]⟩ := by
        obtain ⟨a⟩ := x
        simp only [ByteArray.size] at hx
        rw [Array.eq_empty_of_size_eq_zero hx]
      subst hx0
      gi_wp2_with (fail)
      refine ⟨fun _ h => (by cases h), ?_⟩
      gi_wp2_with (fail)
      refine ⟨KeepsB.refl _ _, hR, ?_, h2, h3, h4⟩
      rw [List.filter_append, show [(⟨#[]⟩ : ByteArray)].filter (fun w => !(w.size == 0)) = [] from rfl, List.append_nil]
      exact h1
    · have hadm2 : (pre.filter fun w => !(w.size == 0)) ++ [x] <+: wdsB s := by
        obtain ⟨t, ht⟩ := hadm
        refine ⟨t.filter fun w => !(w.size == 0), ?_⟩
        unfold wdsB
        rw [← ht, List.filter_append, List.filter_append]
        simp [hx]
      obtain ⟨fn, tmps, assign, body, hy, hRd⟩ := hY _ _ x V (by omega) h1 h2 hadm2
      dsimp only [strEnc] at hy
      have hne : x.toList.isEmpty = false := by
        rw [Lib.toList_data]
        cases h : x.data.toList with
        | nil => exact absurd (by rw [← size8, h]; rfl) hx
        | cons _ _ => rfl
      have hxf : (pre ++ [x]).filter (fun w => !(w.size == 0)) = (pre.filter fun w => !(w.size == 0)) ++ [x] := by
        rw [List.filter_append]; simp [hx]
      replace hadm2 := hid hadm2
      replace hxf := hid hxf
      gi_wp2_with (fail)
      refine ⟨rfl, hRd.mono ?_⟩
      have hkb : ∀ W3, KeepsM (W.heap.size + 4) W.heap.size V W3 → KeepsB (fun k => k == W.heap.size + 1) W2.heap.size V W3 := fun W3 h => ⟨h.size, fun k o hk ho => by
        rcases ho with ⟨g1, g2⟩ | g1
        · exact h.same k o (by omega) hk (.inl g2)
        · have : k = W.heap.size + 1 := by simpa using g1
          exact h.same k o (by omega) hk (.inr (by omega))⟩
      rintro e W3 (⟨rfl, hJ4, hR4, hK4⟩ | ⟨rfl, hJx4, hK4⟩)
      · gi_wp2_with (fail)
        refine ⟨hkb _ hK4, ⟨hK4.same _ _ (by omega) hR.1 (.inr (by omega)), hK4.same _ _ (by omega) hR.2 (.inr (by omega))⟩, ?_, hR4, hK4.same _ _ (by omega) h3 (.inr (by omega)), Nat.le_trans h4 hK4.size⟩
        rw [hxf.out]
        exact hJ4
      · gi_wp2_with (fail)
        exact ⟨hkb _ hK4, rfl, _, hJx4⟩

theorem words_any (s : ByteArray) (w : World) :
    Calls Tryd.prog 33 #[.string s] w fun e w' => e = .returned (.func (.func 46) #[] #[.pointer (some ⟨w.heap.size, 0, none⟩)]) ∧ w' = w.alloc (.cells #[.string s] 9) := by
  go_enter Tryd.func33, Tryd.ntmps33
  go_wp2
  go_ret
  exact ⟨rfl, rfl⟩

theorem Tryd.infoS : (Tryd.prog.info? 9).map (fun i => (i.zero, i.size, i.bytes)) = some (some (.string ⟨#[]⟩), 1, 16) := by kernel_rfl
theorem cells_newS (W : World) (cs : List Value) (t : TypeId) : ∀ (j : Nat) (u : Value), cs[j]? = some u → (W.alloc (.cells cs.toArray t)).cell? ((⟨W.heap.size, 0, none⟩ : Addr).add j) = some u := by
  intro j u h
  have h1 := World.alloc_heap_new W (.cells cs.toArray t)
  have : (⟨W.heap.size, 0, none⟩ : Addr).add j = ⟨W.heap.size, j, none⟩ := by simp [Addr.add]; omega
  rw [this]
  exact cell_blk h1 (by simpa using h)
def encT (s : ByteArray) : List Value := [.string s]
theorem owns_downQ {W : World} {b b' : Nat} {e : TypeId} {size : Nat} {v : Value} {n : Nat} {xs : List Value} (hb : b' ≤ b) (h : W.ownsRow b e size v n xs) : W.ownsRow b' e size v n xs := by
  obtain ⟨h1, h2⟩ := h
  refine ⟨h1, ?_⟩
  rcases h2 with h2 | ⟨g, cap, cur, hv, hg, r⟩
  · exact .inl h2
  · exact .inr ⟨g, cap, cur, hv, Nat.le_trans hb hg, r⟩

set_option maxRecDepth 100000 in
set_option maxHeartbeats 2000000 in
theorem AppendSeqT_any (w : World) (gf : Nat) (lb : Array Value) (R : World → Prop) (L : List ByteArray) (hL : L.length ≤ 2000000)
    (eg : ∀ args w, (callFunc gf args).run Tryd.prog w = .ok (.enter gf args) w) (hR : ∀ B, St B R) (hRB : ∀ W, Below w.heap.size w W → R W)
    (hseq : SeqQ Tryd.prog gf lb strEnc R (fun pre x _ => pre ++ [x] <+: L) (fun xs _ => xs = L) (fun _ _ => True)) :
    Calls Tryd.prog 45 #[.slice none 0 0, .func (.func gf) #[] lb] w fun e w' => ∃ v, e = .returned v ∧ Sl w' 1 encT v L ∧ w'.ownsRow w.heap.size 9 1 v L.length (L.flatMap encT) ∧ Below w.heap.size w w' := by
  obtain ⟨i0, hi, hz0, hz1, hz2⟩ := info_parts Tryd.infoS
  refine calls_of_marks Tryd.func45 rfl ?_
  simp only [Tryd.ntmps45, List.size_toArray, List.length_cons, List.length_nil, Nat.reduceAdd, Nat.reduceSub, Array.replicate_succ, Array.replicate_zero, List.push_toArray, List.append_toArray, List.nil_append, List.cons_append]
  gi_wp2_with (fail)
  have bO := Boxed.new w 37 (.slice none 0 0)
  have hB0 : Below w.heap.size w (w.alloc (.cells #[.slice none 0 0] 37)) := (Below.refl _ w).alloc (Nat.le_refl _) _
  refine range_pQ (act := ?mk) rfl eg hseq (fun _ => rfl)
    (fun M pre W => (∃ v, Boxed W w.heap.size 37 v ∧ W.ownsRow M 9 1 v pre.length (pre.flatMap encT)) ∧ M ≤ W.heap.size ∧ w.heap.size ≤ M ∧ w.heap.size + 1 ≤ W.heap.size ∧ Below w.heap.size w W)
    (fun W => Boxed W w.heap.size 37 (.slice none 0 0) ∧ w.heap.size + 1 ≤ W.heap.size ∧ Below w.heap.size w W)
    (fun _ _ _ => False) ?hI ?hI0 ?hI1 (fun _ _ _ _ _ h => h) hR (fun _ _ => St.pure _) (fun _ => St.pure _) (fun _ => St.pure _) ?h0 (hRB _ hB0)
    ?assign ?body ?done ?stop
  case assign =>
    intro l x W K hK
    dsimp only [strEnc]
    gi_wp2
    exact hK
  case hI =>
    rintro M s A C hk ⟨⟨v, h1, h2⟩, h5, h6, h3, h4⟩
    exact ⟨⟨v, hk.same _ _ h1 (by simp only [inM, World.size_alloc, Bool.and_eq_false_iff, decide_eq_false_iff_not]; omega) (.inl rfl), hk.owns (fun k hk => by simp only [inM, Bool.and_eq_false_iff, decide_eq_false_iff_not]; omega) h2⟩, Nat.le_trans h5 hk.size, h6, Nat.le_trans h3 hk.size, hk.below (by simp) (Nat.le_refl _) (fun k hk => by simp [inM]; omega) h4⟩
  case hI0 =>
    rintro A C hk ⟨h1, h3, h4⟩
    exact ⟨hk.same _ _ h1 (.inl rfl), Nat.le_trans h3 hk.size, hk.below (by simp) (Nat.le_refl _) h4⟩
  case hI1 =>
    rintro M W ⟨h1, h3, h4⟩ hM0 hM
    exact ⟨⟨_, h1, World.ownsRow_nil _ _ _ _⟩, hM, by simp at hM0; omega, h3, h4⟩
  case h0 => exact ⟨bO, by simp, hB0⟩
  case body =>
    rintro l M pre x W hl2 hM1 _ ⟨⟨v, hv, hrow⟩, hMs, -, hsz, hB⟩ hR' hadm
    have hpl : pre.length + 1 ≤ 2000000 := by
      obtain ⟨t, ht⟩ := hadm
      have := congrArg List.length ht
      simp at this; omega
    have hMw : w.heap.size + 1 ≤ M := by simpa using hM1
    have hc := hv.cell
    clear hadm hL hM1
    gi_wp2_with (gi_at_builtin; go_must (refine wpListIn_append_own _ rfl _ _ 37 rfl M 9 i0 (.string ⟨#[]⟩) 1 16 Tryd.underlying37 hi hz0 hz1 hz2 rfl (by decide) _ _ _ rfl (hrow.alloc _) ⟨_, 0, none⟩ 1 1 [.string x] rfl rfl (cells_newS _ _ _) (by simp [Value.oneCell']) (by unfold maxLen; omega) (by omega) (by simp; omega) ?_; intro v' w1 hown' hgrow _; obtain ⟨g', cap', rfl⟩ := ownsRow_succ hown'; obtain ⟨hv1, hv2, hr2, hk2, hb2⟩ := hv.appended (by decide) (owns_downQ (b' := w.heap.size) (by omega) hrow) hB.size (Nat.le_refl _) (owns_downQ (b' := w.heap.size) (by omega) hown') hgrow; have hkx : KeepsM M (w.heap.size + 1) W w1 := (KeepsM.alloc _ _ _ _).trans (KeepsM.grown _ (hrow.alloc _) hgrow); have hc1 := hv1.cell; have hf1 := hv1.frozen))
    have hB2 := hB.trans hb2
    have hg2 : M ≤ (w1.setCell ⟨w.heap.size, 0, none⟩ (.slice (some ⟨g', 0, none⟩) (pre.length + 1) cap')).heap.size := Nat.le_trans hMs hb2.size
    refine ⟨(hkx.trans (KeepsM.setCell _ _ hv1 (.inl (by omega)) _)).mono (by simp), hRB _ hB2, ⟨_, hv2, ?_⟩, hg2, by omega, Nat.le_trans hsz hb2.size, hB2⟩
    have hne : w.heap.size < M := by omega
    obtain ⟨o1, o2⟩ := hown'
    refine ⟨by simpa [encT] using hr2.1, ?_⟩
    rcases o2 with ⟨e0, e1⟩ | ⟨g, cap, cur, e0, hg, hh, r⟩
    · cases e0
    · cases e0
      refine .inr ⟨g', cap', cur, by simp, hg, (setCell_off (by omega)).trans hh, ?_⟩
      simpa [encT] using r
  case done =>
    rintro D M ys W hD rfl ⟨⟨v, hv, hrow⟩, hMs, hMb, hsz, hB⟩ hR' hK
    have hc := hv.cell
    have hrow2 := owns_downQ hMb hrow
    have hsl := sl_of_owns (enc := encT) (fun _ _ => rfl) hrow
    gi_wp2
    refine leave1 hK (fun _ _ => results_tmp rfl _ _ _) ⟨_, rfl, ?_, ?_, ?_⟩
    · exact (Kept.putObj (B := 0) _ (Nat.zero_le _) hK rfl).sl hsl
    · exact (Kept.putObj (B := 0) _ (Nat.zero_le _) hK rfl).owns hrow2
    · exact (Kept.putObj (B := w.heap.size) (.deferred none) (by simp at hD; omega) hK rfl).below (Nat.le_refl _) (Nat.le_refl _) hB
  case stop =>
    rintro D c pre W _ _ h _
    exact h.elim

theorem CollectT_any (w : World) (gf : Nat) (lb : Array Value) (R : World → Prop) (L : List ByteArray) (hL : L.length ≤ 2000000)
    (eg : ∀ args w, (callFunc gf args).run Tryd.prog w = .ok (.enter gf args) w) (hR : ∀ B, St B R) (hRB : ∀ W, Below w.heap.size w W → R W)
    (hseq : SeqQ Tryd.prog gf lb strEnc R (fun pre x _ => pre ++ [x] <+: L) (fun xs _ => xs = L) (fun _ _ => True)) :
    Calls Tryd.prog 32 #[.func (.func gf) #[] lb] w fun e w' => ∃ v, e = .returned v ∧ Sl w' 1 encT v L ∧ w'.ownsRow w.heap.size 9 1 v L.length (L.flatMap encT) ∧ Below w.heap.size w w' := by
  have hc := hid (AppendSeqT_any w gf lb R L hL eg hR hRB hseq)
  clear hseq eg
  go_enter Tryd.func32, Tryd.ntmps32
  go_wp2_with (fail)
  refine hc.out.mono ?_
  rintro e w' ⟨v, rfl, h1, h2, h3⟩
  go_wp2
  go_ret
  exact ⟨_, rfl, h1, h2, h3⟩

/-- a line's words, as a list of the call's own -/
theorem Words_any (s : ByteArray) (w : World) (hs : s.size ≤ 1000000) :
    Calls Tryd.prog 19 #[.string s] w fun e w' => ∃ v, e = .returned v ∧ w'.ownsRow (w.heap.size + 1) 9 1 v (wdsB s).length ((wdsB s).flatMap encT) ∧ Below w.heap.size w w' := by
  have hB1 : Below w.heap.size w (w.alloc (.cells #[.string s] 9)) := (Below.refl _ w).alloc (Nat.le_refl _) _
  have hn := World.alloc_heap_new w (.cells #[.string s] 9)
  have hz := World.size_alloc w (.cells #[.string s] 9)
  have hl := wdsB_len s
  have hc := hid (CollectT_any (w.alloc (.cells #[.string s] 9)) 46 #[.pointer (some ⟨w.heap.size, 0, none⟩)] _ (wdsB s) (by omega) (enters_of Tryd.func46 (by kernel_rfl) rfl)
    (fun B A C hk h => hk.same _ _ h (.inl rfl)) (fun V hV => (hV.block w.heap.size (by omega)).trans hn) (words1_seq s hs w.heap.size))
  generalize wdsB s = L at *
  go_enter Tryd.func19, Tryd.ntmps19
  go_wp2_with (fail)
  refine (words_any s w).mono ?_
  rintro e w1 ⟨rfl, rfl⟩
  go_wp2_with (fail)
  refine hc.out.mono ?_
  rintro e w2 ⟨v, rfl, -, o2, b2⟩
  go_wp2_with (fail)
  go_ret
  rw [hz] at o2
  exact ⟨_, rfl, o2, hB1.trans (b2.mono hB1.size)⟩
end Go.Proofs.YtgbfekimflnaiaaDoor
