/- The walks of utf.Valid, signs, Signs. -/
import Derived.Test.YtjkfefjfmocekaaDoorUtfB
import Derived.Test.YtjkfefjfmocekaaDoorShelf
namespace Go.Proofs.YtjkfefjfmocekaaDoor
open Go.RowKit Go.Shelf Go.Lib
attribute [local go_sem] Oper.semAt_some

/-- the library's two tables hold what they hold -/
def Tabs (w : World) : Prop := Lib.Utf8Tabs 0 1 w

set_option maxHeartbeats 400000 in
theorem Valid_any (s : ByteArray) (w : World) (hs : s.size ≤ 9223372036854775807) (hT : Tabs w) :
    Calls Tryd.prog 28 #[.string s] w fun e w' => e = .returned (.bool (validD s.data.toList)) ∧ Below w.heap.size w w' := by
  have hc := Tryd.utf8_ValidString s w hs hT
  clear hT
  go_enter Tryd.func28, Tryd.ntmps28
  go_wp2_with (fail)
  refine hc.mono ?_
  rintro e w' ⟨rfl, hB⟩
  go_wp2
  go_ret
  exact ⟨rfl, hB⟩

set_option maxHeartbeats 400000 in
theorem signs_any (s : ByteArray) (w : World) :
    Calls Tryd.prog 29 #[.string s] w fun e w' => e = .returned (.func (.func 36) #[] #[.pointer (some ⟨w.heap.size, 0, none⟩)]) ∧ w' = w.alloc (.cells #[.string s] 9) := by
  go_enter Tryd.func29, Tryd.ntmps29
  go_wp2
  go_ret
  exact ⟨rfl, rfl⟩

set_option maxHeartbeats 400000 in
/-- of a text that is not valid: nil -/
theorem Signs_no (s : ByteArray) (w : World) (hs : s.size ≤ 9223372036854775807) (hT : Tabs w) (hv : validD s.data.toList = false) :
    Calls Tryd.prog 19 #[.string s] w fun e w' => e = .returned (.slice none 0 0) ∧ Below w.heap.size w w' := by
  have hc := Valid_any s w hs hT
  rw [hv] at hc
  refine calls_of_marks Tryd.func19 rfl ?_
  simp only [Tryd.ntmps19, List.size_toArray, List.length_cons, List.length_nil, Nat.reduceAdd, Nat.reduceSub, Array.replicate_succ, Array.replicate_zero, List.push_toArray, List.append_toArray, List.nil_append, List.cons_append]
  clear hT hv
  gi_wp2_with (fail)
  refine ⟨trivial, rfl, (callsIn_wide.2 hc).mono ?_⟩
  rintro e w' ⟨rfl, hB⟩
  gi_wp2
  exact ⟨_, results_tmp rfl _ _ _, rfl, hB⟩

set_option maxRecDepth 100000 in
set_option maxHeartbeats 1000000 in
theorem Signs_yes (s : ByteArray) (w : World) (hs : s.size ≤ 1000000) (hT : Tabs w) (xs : List Int) (hx : ∀ x ∈ xs, okv x) (hl : s.data.toList = txt xs) :
    Calls Tryd.prog 19 #[.string s] w fun e w' => ∃ v, e = .returned v ∧ Sl w' 1 encI v xs ∧ Below w.heap.size w w' := by
  obtain ⟨i0, hi, hz0, hz1, hz2⟩ := info_parts Tryd.infoI
  have hc := Valid_any s w (by omega) hT
  have hv : validD s.data.toList = true := (valid_iff _).2 ⟨xs, hx, hl⟩
  rw [hv] at hc
  have hlen : xs.length ≤ 1000000 := by
    have h1 := txt_size hl
    have : ∀ ys : List Int, (∀ y ∈ ys, okv y) → ys.length ≤ (txt ys).length := by
      intro ys
      induction ys with
      | nil => intro _; simp
      | cons y ys ih =>
        intro hy
        have := (enc_len (hy y (by simp))).1
        have := ih (fun z hz => hy z (by simp [hz]))
        rw [txt_cons, List.length_append, List.length_cons]; omega
    have := this xs hx
    omega
  refine calls_of_marks Tryd.func19 rfl ?_
  simp only [Tryd.ntmps19, List.size_toArray, List.length_cons, List.length_nil, Nat.reduceAdd, Nat.reduceSub, Array.replicate_succ, Array.replicate_zero, List.push_toArray, List.append_toArray, List.nil_append, List.cons_append]
  clear hT hv
  gi_wp2_with (fail)
  refine ⟨trivial, rfl, (callsIn_wide.2 hc).mono ?_⟩
  rintro e w0 ⟨rfl, hB0⟩
  clear hc
  gi_wp2_with (fail)
  refine ⟨trivial, rfl, (callsIn_wide.2 (signs_any s _)).mono ?_⟩
  rintro e w' ⟨rfl, rfl⟩
  gi_wp2_with (fail)
  have bO := Boxed.new w0 56 (.slice none 0 0)
  have hB1 : Below w0.heap.size w0 ((w0.alloc (.cells #[.slice none 0 0] 56)).alloc (.cells #[.string s] 9)) :=
    ((Below.refl _ w0).alloc (Nat.le_refl _) _).alloc (by simp) _
  have bS := Boxed.new (w0.alloc (.cells #[.slice none 0 0] 56)) 9 (.string s)
  simp only [World.size_alloc] at bS
  refine range_p (act := ?act) rfl (enters_of Tryd.func36 (by kernel_rfl) rfl) (signs1_seq (w0.heap.size + 1) s xs hx hl) (fun _ => rfl)
    (fun pre W => (∃ v, Boxed W w0.heap.size 56 v ∧ W.ownsRow w0.heap.size 3 1 v pre.length (pre.flatMap encI)) ∧
      Boxed W (w0.heap.size + 1) 9 (.string s) ∧ Below w0.heap.size w0 W)
    (fun _ _ _ => False)
    (fun _ => St.and (St.ex fun v => St.and St.boxed St.owns) (St.and St.boxed (St.below (by simp; omega) (Nat.le_refl _))))
    (fun _ _ _ _ _ h => h) (fun B => SgR.st B) (fun _ _ => St.pure _) (fun _ => St.pure _) (fun _ => St.pure _)
    ⟨⟨_, bO.alloc _, World.ownsRow_nil _ _ _ _⟩, bS, hB1⟩ bS.cell ?assign ?body ?done ?stop
  case assign =>
    intro l x W K hK
    dsimp only [sgEnc]
    gi_wp2
    exact hK
  case body =>
    rintro l pre x W hl2 _ ⟨⟨v, hv, hrow⟩, b1, hB⟩ hR hadm
    have hpl : pre.length + 1 ≤ 1000000 := by
      obtain ⟨t, ht⟩ := hadm
      have := congrArg List.length ht
      simp at this; omega
    have hc := hv.cell
    have n1 := b1.not_row (by decide) hrow
    clear hadm hl hx
    gi_wp2_with (gi_at_builtin; go_must (refine wpListIn_append_own _ rfl _ _ 56 rfl w0.heap.size 3 i0 (.int .i64 0) 1 8 Tryd.underlying56 hi hz0 hz1 hz2 rfl (by decide) _ _ _ rfl (hrow.alloc _) ⟨W.heap.size, 0, none⟩ 1 1 [.int .i64 x] rfl rfl (cell_one_new _ _ _) (by simp [Value.oneCell']) (by unfold maxLen; omega) (by omega) (by have := hB.size; simp; omega) ?_; intro v' w1 hown' hgrow _; obtain ⟨g', cap', rfl⟩ := ownsRow_succ hown'; obtain ⟨hv1, hv2, hr2, hk2, hb2⟩ := hv.appended (by decide) hrow hB.size (Nat.le_refl _) hown' hgrow; have hc1 := hv1.cell; have hf1 := hv1.frozen; have c1 := ((b1.alloc _).kept hgrow n1).other (B' := w0.heap.size) (by omega) (.slice (some ⟨g', 0, none⟩) (pre.length + 1) cap')))
    have hB2 := hB.trans hb2
    refine ⟨hk2.from _, c1.cell, ⟨_, hv2, ?_⟩, c1, hB2⟩
    simpa [encI] using hr2
  case done =>
    rintro D ys W hD rfl ⟨⟨v, hv, hrow⟩, -, hB⟩ hR hK
    have hc := hv.cell
    have hsl := sl_of_owns (enc := encI) (fun _ _ => rfl) hrow
    gi_wp2
    refine leave1 hK (fun _ _ => results_tmp rfl _ _ _) ⟨_, rfl, ?_, ?_⟩
    · exact (Kept.putObj (B := 0) _ (Nat.zero_le _) hK rfl).sl hsl
    · exact hB0.trans (((Kept.putObj (B := w0.heap.size) (.deferred none) (by simp at hD; omega) hK rfl).below (Nat.le_refl _) (Nat.le_refl _) hB).mono hB0.size)
  case stop =>
    rintro D c pre W _ _ h _
    exact h.elim
end Go.Proofs.YtjkfefjfmocekaaDoor
