/- The walk of slices.AppendSeq and Collect, of pieces. -/
import Derived.Test.YtjkfefjfmocekaaDoorRangeY
import Derived.Test.YtjkfefjfmocekaaDoorSetP
import Derived.Deep.QuietTactic
import Derived.BigQuiet
namespace Go.Proofs.YtjkfefjfmocekaaDoor
open Go.RowKit Go.Shelf
attribute [local go_sem] Oper.semAt_some

theorem Tryd.infoIt : (Tryd.prog.info? 34).map (fun i => (i.zero, i.size, i.bytes)) = some (some (.agg #[.int .i64 0, .int .i64 0, .int .i64 0, .int .i64 0, .int .i64 0, .string ⟨#[]⟩]), 6, 56) := by kernel_rfl
def itEnc (x : It) : Array Value := #[.agg (encIt x).toArray]

theorem cells_new (W : World) (cs : List Value) (t : TypeId) : ∀ (j : Nat) (u : Value), cs[j]? = some u → (W.alloc (.cells cs.toArray t)).cell? ((⟨W.heap.size, 0, none⟩ : Addr).add j) = some u := by
  intro j u h
  have h1 := World.alloc_heap_new W (.cells cs.toArray t)
  have : (⟨W.heap.size, 0, none⟩ : Addr).add j = ⟨W.heap.size, j, none⟩ := by simp [Addr.add]; omega
  rw [this]
  exact cell_blk h1 (by simpa using h)

set_option maxRecDepth 100000 in
set_option maxHeartbeats 2000000 in
theorem AppendSeq_any (w : World) (gf : Nat) (lb : Array Value) (N : TypeId → Bool) (hN1 : N 30 = false) (hN2 : N 34 = false) (R : World → Prop) (L : List It) (hL : L.length ≤ 100000)
    (eg : ∀ args w, (callFunc gf args).run Tryd.prog w = .ok (.enter gf args) w) (hR : ∀ B, St B R) (hRB : ∀ W, Below w.heap.size w W → R W)
    (hseq : SeqX Tryd.prog N gf lb itEnc R (fun pre x _ => pre ++ [x] <+: L) (fun xs _ => xs = L) (fun _ _ => True)) :
    Calls Tryd.prog 23 #[.slice none 0 0, .func (.func gf) #[] lb] w fun e w' => ∃ v, e = .returned v ∧ Sl w' 6 encIt v L ∧ Below w.heap.size w w' := by
  obtain ⟨i0, hi, hz0, hz1, hz2⟩ := info_parts Tryd.infoIt
  refine calls_of_marks Tryd.func23 rfl ?_
  simp only [Tryd.ntmps23, List.size_toArray, List.length_cons, List.length_nil, Nat.reduceAdd, Nat.reduceSub, Array.replicate_succ, Array.replicate_zero, List.push_toArray, List.append_toArray, List.nil_append, List.cons_append]
  gi_wp2_with (fail)
  have bO := Boxed.new w 30 (.slice none 0 0)
  have hB0 : Below w.heap.size w (w.alloc (.cells #[.slice none 0 0] 30)) := (Below.refl _ w).alloc (Nat.le_refl _) _
  refine range_boxX rfl eg hseq (fun _ => rfl)
    (fun pre W => (∃ v, Boxed W w.heap.size 30 v ∧ W.ownsRow w.heap.size 34 6 v pre.length (pre.flatMap encIt)) ∧ w.heap.size + 1 ≤ W.heap.size ∧ Below w.heap.size w W)
    (fun _ _ _ => False) ?hI (fun _ _ _ _ _ h => h) hR (fun _ _ => St.pure _) (fun _ => St.pure _) (fun _ => St.pure _) ?hsz ?h0 (hRB _ hB0)
    ?mk (fun x => (encIt x).toArray) 34 ?assign ?body ?done ?stop
  case assign =>
    intro l x j W K hj hK
    dsimp only [itEnc, encIt] at hK ⊢
    gi_wp2
    exact hK
  case hI =>
    rintro s A C hk ⟨⟨v, h1, h2⟩, h3, h4⟩
    exact ⟨⟨v, hk.blk h1 hN1, hk.owns hN2 h2⟩, Nat.le_trans h3 hk.size, hk.below (by simp) (Nat.le_refl _) h4⟩
  case hsz => exact fun _ _ h => by have := h.2.1; simp; omega
  case h0 => exact ⟨⟨_, bO, World.ownsRow_nil _ _ _ _⟩, by simp, hB0⟩
  case body =>
    rintro l pre x j W hl2 _ ⟨⟨v, hv, hrow⟩, hsz, hB⟩ hR' hadm hj hx
    have hpl : pre.length + 1 ≤ 100000 := by
      obtain ⟨t, ht⟩ := hadm
      have := congrArg List.length ht
      simp at this; omega
    have hc := hv.cell
    dsimp only [encIt] at hx ⊢
    have x1 := cell_blk (i := 0) hx rfl
    have x2 := cell_blk (i := 1) hx rfl
    have x3 := cell_blk (i := 2) hx rfl
    have x4 := cell_blk (i := 3) hx rfl
    have x5 := cell_blk (i := 4) hx rfl
    have x6 := cell_blk (i := 5) hx rfl
    clear hadm hL
    gi_wp2_with (gi_at_builtin; go_must (refine wpListIn_append_own _ rfl _ _ 30 rfl w.heap.size 34 i0 (.agg #[.int .i64 0, .int .i64 0, .int .i64 0, .int .i64 0, .int .i64 0, .string ⟨#[]⟩]) 6 56 Tryd.underlying30 hi hz0 hz1 hz2 rfl (by decide) _ _ _ rfl (hrow.alloc _) ⟨W.heap.size, 0, none⟩ 1 1 [.int .i64 x.kind, .int .i64 x.w, .int .i64 x.y, .int .i64 x.z, .int .i64 x.cost, .string x.text] rfl rfl ?_ (by simp [Value.oneCell']) (by unfold maxLen; omega) (by omega) (by have := hB.size; simp; omega) ?_; rotate_left; intro v' w1 hown' hgrow _; obtain ⟨g', cap', rfl⟩ := ownsRow_succ hown'; obtain ⟨hv1, hv2, hr2, hk2, hb2⟩ := hv.appended (by decide) hrow hB.size (Nat.le_refl _) hown' hgrow; have hkx : KeepsX N w.heap.size W w1 := (KeepsX.alloc _ _ _).trans (KeepsX.grown _ hgrow (owns_type (hrow.alloc _) hN2)); have hc1 := hv1.cell; have hf1 := hv1.frozen))
    · have hB2 := hB.trans hb2
      refine ⟨(hkx.trans (KeepsX.setCell _ hv1 hN1 _)).mono (by simp), hRB _ hB2, ⟨_, hv2, ?_⟩, Nat.le_trans hsz hb2.size, hB2⟩
      simpa [encIt] using hr2
    · exact cells_new W _ _
  case done =>
    rintro D ys W hD rfl ⟨⟨v, hv, hrow⟩, hsz, hB⟩ hR' hK
    have hc := hv.cell
    have hsl := sl_of_owns (enc := encIt) (fun _ _ => rfl) hrow
    gi_wp2
    refine leave1 hK (fun _ _ => results_tmp rfl _ _ _) ⟨_, rfl, ?_, ?_⟩
    · exact (Kept.putObj (B := 0) _ (Nat.zero_le _) hK rfl).sl hsl
    · exact (Kept.putObj (B := w.heap.size) (.deferred none) (by simp at hD; omega) hK rfl).below (Nat.le_refl _) (Nat.le_refl _) hB
  case stop =>
    rintro D c pre W _ _ h _
    exact h.elim

set_option maxRecDepth 100000 in
set_option maxHeartbeats 2000000 in
theorem Collect_any (w : World) (gf : Nat) (lb : Array Value) (N : TypeId → Bool) (hN1 : N 30 = false) (hN2 : N 34 = false) (R : World → Prop) (L : List It) (hL : L.length ≤ 100000)
    (eg : ∀ args w, (callFunc gf args).run Tryd.prog w = .ok (.enter gf args) w) (hR : ∀ B, St B R) (hRB : ∀ W, Below w.heap.size w W → R W)
    (hseq : SeqX Tryd.prog N gf lb itEnc R (fun pre x _ => pre ++ [x] <+: L) (fun xs _ => xs = L) (fun _ _ => True)) :
    Calls Tryd.prog 13 #[.func (.func gf) #[] lb] w fun e w' => ∃ v, e = .returned v ∧ Sl w' 6 encIt v L ∧ Below w.heap.size w w' := by
  have hc := hid (AppendSeq_any w gf lb N hN1 hN2 R L hL eg hR hRB hseq)
  clear hseq eg
  go_enter Tryd.func13, Tryd.ntmps13
  go_wp2_with (fail)
  refine hc.out.mono ?_
  rintro e w' ⟨v, rfl, h1, h2⟩
  go_wp2
  go_ret
  exact ⟨_, rfl, h1, h2⟩
end Go.Proofs.YtjkfefjfmocekaaDoor
