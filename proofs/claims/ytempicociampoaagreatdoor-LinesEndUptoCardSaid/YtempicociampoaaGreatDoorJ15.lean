/- The library's contracts at this seat, in plain words. The library's contracts in this seat: utf8.ValidString, strings.IndexByte. The walks of utf.Valid, signs, Signs. What the rows' list gives: the library's two tables hold what they hold; arguments that came in. -/
import Derived.Shelf.Strings.BuilderF
import Derived.Shelf.Strings.Builder1
import Derived.Shelf.Strings.BuilderK
import Derived.Test.YtempicociampoaaGreatDoorProg
import Derived.Shelf.Unicode.ValidAny
import Derived.Shelf.Strings.Search1
import Derived.Shelf.Small.Strs
import Derived.Test.YtempicociampoaaGreatDoorJ3
import Derived.Lib.LaidU8T
import Derived.PinnedBridge
namespace Go.Proofs
open Go.Shelf
def Tryz.lays169_ren : Go.Shelf.Ren := ⟨fun | 169 => 35 | n => n, fun | 70 => 65 | 9 => 9 | 0 => 0 | 72 => 68 | 37 => 66 | 127 => 109 | 3 => 3 | 5 => 5 | n => n, fun | n => n⟩
theorem Tryz.lays169 : Go.Proofs.Lays.n169 Tryz.prog Tryz.lays169_ren := {
 mixed := by kernel_rfl
 f169 := Tryz.func35.trans (congrArg some (by kernel_rfl))
 t0 := Tryz.underlying0
 a0 := Tryz.isAgg0
 z0 := Tryz.sizeOf0
 v0 := Tryz.zeroValue0
 t3 := Tryz.underlying3
 a3 := Tryz.isAgg3
 z3 := Tryz.sizeOf3
 v3 := Tryz.zeroValue3
 t9 := Tryz.underlying9
 a9 := Tryz.isAgg9
 z9 := Tryz.sizeOf9
 v9 := Tryz.zeroValue9
 t37 := Tryz.underlying66
 a37 := Tryz.isAgg66
 z37 := Tryz.sizeOf66
 v37 := Tryz.zeroValue66
 t70 := Tryz.underlying65
 a70 := Tryz.isAgg65
 z70 := Tryz.sizeOf65
 v70 := Tryz.zeroValue65
 t72 := Tryz.underlying68
 a72 := Tryz.isAgg68
 z72 := Tryz.sizeOf68
 v72 := Tryz.zeroValue68
 t127 := Tryz.underlying109
 a127 := Tryz.isAgg109
 z127 := Tryz.sizeOf109
 v127 := Tryz.zeroValue109 }
theorem Tryz.Builder_Extra_169 : Builder.Extra Tryz.prog Tryz.lays169_ren := {
 sizeBuilder := by kernel_rfl
 liesBuilder := by kernel_rfl
 t5 := Tryz.underlying5
 a5 := Tryz.isAgg5
 z5 := Tryz.sizeOf5
 v5 := Tryz.zeroValue5
 infoByte := by kernel_rfl
 cellsByte := by kernel_rfl
 sizeByte := by kernel_rfl
 neB5 := by decide }
open Go.RowKit in
/-- (*strings.Builder).String: "String returns the accumulated string.": WHATEVER THE BUILDER HOLDS; THE FORM '_k': OVER 'Lib.IsBuilderF' (a builder that 'String()' may have read), AND WITH THE FRAME THAT REACHES ABOVE THE BUILDER: 'Lib.OthersKept': every block that is not b and is no row of uint8's stands as it stood: the iterator of a range among them. (LAID: no walk: one application.) -/
theorem Tryz.Builder_String_any_k (B b : Nat) (l : List UInt8) (w : World) (h : Lib.IsBuilderF 68 5 B b (Lib.byteCells l) w) (hBw : B ≤ w.heap.size) :
  Calls Tryz.prog 35 #[.pointer (some ⟨b, 0, none⟩)] w fun e w' => e = .returned (.string ⟨l.toArray⟩) ∧ (Lib.IsBuilderF 68 5 B b (Lib.byteCells l) w' ∧ Below B w w' ∧ Lib.OthersKept 5 (some b) w w') := Any.Builder_String_any_k Tryz.lays169 Tryz.Builder_Extra_169 B b l w h hBw
end Go.Proofs
namespace Go.Proofs
open Go.Shelf
def Tryz.lays196_ren : Go.Shelf.Ren := ⟨fun | 196 => 113 | 259 => 123 | n => n, fun | 0 => 0 | 3 => 3 | 4 => 4 | 5 => 5 | 9 => 9 | 12 => 12 | 46 => 143 | 53 => 175 | 119 => 171 | 138 => 173 | 139 => 174 | n => n, fun | 3 => 0 | 4 => 1 | n => n⟩
theorem Tryz.lays196 : Go.Proofs.Lays.n196 Tryz.prog Tryz.lays196_ren := {
 mixed := by kernel_rfl
 f196 := Tryz.func113.trans (congrArg some (by kernel_rfl))
 f259 := Tryz.func123.trans (congrArg some (by kernel_rfl))
 t0 := Tryz.underlying0
 a0 := Tryz.isAgg0
 z0 := Tryz.sizeOf0
 v0 := Tryz.zeroValue0
 t3 := Tryz.underlying3
 a3 := Tryz.isAgg3
 z3 := Tryz.sizeOf3
 v3 := Tryz.zeroValue3
 t4 := Tryz.underlying4
 a4 := Tryz.isAgg4
 z4 := Tryz.sizeOf4
 v4 := Tryz.zeroValue4
 t5 := Tryz.underlying5
 a5 := Tryz.isAgg5
 z5 := Tryz.sizeOf5
 v5 := Tryz.zeroValue5
 t9 := Tryz.underlying9
 a9 := Tryz.isAgg9
 z9 := Tryz.sizeOf9
 v9 := Tryz.zeroValue9
 t12 := Tryz.underlying12
 a12 := Tryz.isAgg12
 z12 := Tryz.sizeOf12
 v12 := Tryz.zeroValue12
 t46 := Tryz.underlying143
 a46 := Tryz.isAgg143
 z46 := Tryz.sizeOf143
 v46 := Tryz.zeroValue143
 t53 := Tryz.underlying175
 a53 := Tryz.isAgg175
 z53 := Tryz.sizeOf175
 v53 := Tryz.zeroValue175
 t119 := Tryz.underlying171
 a119 := Tryz.isAgg171
 z119 := Tryz.sizeOf171
 t138 := Tryz.underlying173
 a138 := Tryz.isAgg173
 z138 := Tryz.sizeOf173
 v138 := Tryz.zeroValue173
 t139 := Tryz.underlying174
 a139 := Tryz.isAgg174
 z139 := Tryz.sizeOf174
 v139 := Tryz.zeroValue174
 g3 := by kernel_rfl
 g4 := by kernel_rfl }
open Go.RowKit in
/-- utf8.ValidString -/
theorem Tryz.utf8_ValidString (s : ByteArray) (w : World) (hs : s.size ≤ 9223372036854775807) (hT : Lib.Utf8Tabs (Tryz.lays196_ren.g 3) (Tryz.lays196_ren.g 4) w) :
  Calls Tryz.prog 113 #[.string s] w fun e w' => e = .returned (.bool (Lib.validD s.data.toList)) ∧ Below w.heap.size w w' := Any.utf8_ValidString Tryz.lays196 s w hs hT
def Tryz.lays137_ren : Go.Shelf.Ren := ⟨fun | 137 => 98 | 217 => 115 | 266 => 124 | n => n, fun | 3 => 3 | 5 => 5 | 9 => 9 | n => n, fun | n => n⟩
theorem Tryz.lays137 : Go.Proofs.Lays.n137 Tryz.prog Tryz.lays137_ren := {
 mixed := by kernel_rfl
 f137 := Tryz.func98.trans (congrArg some (by kernel_rfl))
 f217 := Tryz.func115.trans (congrArg some (by kernel_rfl))
 f266 := Tryz.func124.trans (congrArg some (by kernel_rfl))
 t3 := Tryz.underlying3
 a3 := Tryz.isAgg3
 z3 := Tryz.sizeOf3
 v3 := Tryz.zeroValue3
 t5 := Tryz.underlying5
 a5 := Tryz.isAgg5
 z5 := Tryz.sizeOf5
 v5 := Tryz.zeroValue5
 t9 := Tryz.underlying9
 a9 := Tryz.isAgg9
 z9 := Tryz.sizeOf9
 v9 := Tryz.zeroValue9 }
open Go.RowKit in
/-- strings.IndexByte -/
theorem Tryz.strings_IndexByte (s : ByteArray) (c : Int) (w : World) :
  Calls Tryz.prog 98 #[.string s, .int .u8 c] w fun e w' => e = .returned (.int .i64 (Lib.indexByte s.data.toList c.toNat.toUInt8)) ∧ w' = w := Any.strings_IndexByte Tryz.lays137 s c w
end Go.Proofs
namespace Go.Proofs.YtempicociampoaaGreatDoor
open Go.RowKit Go.Shelf Go.Lib
attribute [local go_sem] Oper.semAt_some

/-- the library's two tables hold what they hold -/
def Tabs (w : World) : Prop := Lib.Utf8Tabs 0 1 w

set_option maxHeartbeats 400000 in
theorem Valid_any (s : ByteArray) (w : World) (hs : s.size ≤ 9223372036854775807) (hT : Tabs w) :
  Calls Tryz.prog 96 #[.string s] w fun e w' => e = .returned (.bool (validD s.data.toList)) ∧ Below w.heap.size w w' := by
 have hc := Tryz.utf8_ValidString s w hs hT
 clear hT
 go_enter Tryz.func96, Tryz.ntmps96
 go_wp2_with (fail)
 refine hc.mono ?_
 rintro e w' ⟨rfl, hB⟩
 go_wp2
 go_ret
 exact ⟨rfl, hB⟩

set_option maxHeartbeats 400000 in
theorem signs_any (s : ByteArray) (w : World) :
  Calls Tryz.prog 97 #[.string s] w fun e w' => e = .returned (.func (.func 114) #[] #[.pointer (some ⟨w.heap.size, 0, none⟩)]) ∧ w' = w.alloc (.cells #[.string s] 9) := by
 go_enter Tryz.func97, Tryz.ntmps97
 go_wp2
 go_ret
 exact ⟨rfl, rfl⟩

set_option maxHeartbeats 400000 in
/-- of a text that is not valid: nil -/
theorem Signs_no (s : ByteArray) (w : World) (hs : s.size ≤ 9223372036854775807) (hT : Tabs w) (hv : validD s.data.toList = false) :
  Calls Tryz.prog 73 #[.string s] w fun e w' => e = .returned (.slice none 0 0) ∧ Below w.heap.size w w' := by
 have hc := Valid_any s w hs hT
 rw [hv] at hc
 refine calls_of_marks Tryz.func73 rfl ?_
 simp only [Tryz.ntmps73, List.size_toArray, List.length_cons, List.length_nil, Nat.reduceAdd, Nat.reduceSub, Array.replicate_succ, Array.replicate_zero, List.push_toArray, List.append_toArray, List.nil_append, List.cons_append]
 clear hT hv
 gi_wp2_with (fail)
 refine ⟨trivial, rfl, (callsIn_wide.2 hc).mono ?_⟩
 rintro e w' ⟨rfl, hB⟩
 gi_wp2
 exact ⟨_, results_tmp rfl _ _ _, rfl, hB⟩

set_option maxRecDepth 100000 in
set_option maxHeartbeats 1000000 in
theorem Signs_yes (s : ByteArray) (w : World) (hs : s.size ≤ 2000000) (hT : Tabs w) (xs : List Int) (hx : ∀ x ∈ xs, okv x) (hl : s.data.toList = txt xs) :
  Calls Tryz.prog 73 #[.string s] w fun e w' => ∃ v, e = .returned v ∧ Sl w' 1 encI v xs ∧ Below w.heap.size w w' := by
 obtain ⟨i0, hi, hz0, hz1, hz2⟩ := info_parts Tryz.infoI
 have hc := Valid_any s w (by omega) hT
 have hv : validD s.data.toList = true := (valid_iff _).2 ⟨xs, hx, hl⟩
 rw [hv] at hc
 have hlen : xs.length ≤ 2000000 := by
  have h1 := txt_size hl
  have : ∀ ys : List Int, (∀ y ∈ ys, okv y) → ys.length ≤ (txt ys).length := by
   intro ys
   induction ys with
   | nil => intro _; simp
   | cons y ys ih =>
    intro hy
    have := (enc_len (hy y (by simp))).1
    have := ih (fun z hz => hy z (by simp [hz]))
    rw [txt_cons, List.length_append, List.length_cons]; omega
  have := this xs hx
  omega
 refine calls_of_marks Tryz.func73 rfl ?_
 simp only [Tryz.ntmps73, List.size_toArray, List.length_cons, List.length_nil, Nat.reduceAdd, Nat.reduceSub, Array.replicate_succ, Array.replicate_zero, List.push_toArray, List.append_toArray, List.nil_append, List.cons_append]
 clear hT hv
 gi_wp2_with (fail)
 refine ⟨trivial, rfl, (callsIn_wide.2 hc).mono ?_⟩
 rintro e w0 ⟨rfl, hB0⟩
 clear hc
 gi_wp2_with (fail)
 refine ⟨trivial, rfl, (callsIn_wide.2 (signs_any s _)).mono ?_⟩
 rintro e w' ⟨rfl, rfl⟩
 gi_wp2_with (fail)
 have bO := Boxed.new w0 50 (.slice none 0 0)
 have hB1 : Below w0.heap.size w0 ((w0.alloc (.cells #[.slice none 0 0] 50)).alloc (.cells #[.string s] 9)) :=
  ((Below.refl _ w0).alloc (Nat.le_refl _) _).alloc (by simp) _
 have bS := Boxed.new (w0.alloc (.cells #[.slice none 0 0] 50)) 9 (.string s)
 simp only [World.size_alloc] at bS
 refine range_p (act := ?act) rfl (enters_of Tryz.func114 (by kernel_rfl) rfl) (signs1_seq (w0.heap.size + 1) s xs hx hl) (fun _ => rfl)
  (fun pre W => (∃ v, Boxed W w0.heap.size 50 v ∧ W.ownsRow w0.heap.size 3 1 v pre.length (pre.flatMap encI)) ∧
   Boxed W (w0.heap.size + 1) 9 (.string s) ∧ Below w0.heap.size w0 W)
  (fun _ _ _ => False)
  (fun _ => St.and (St.ex fun v => St.and St.boxed St.owns) (St.and St.boxed (St.below (by simp; omega) (Nat.le_refl _))))
  (fun _ _ _ _ _ h => h) (fun B => SgR.st B) (fun _ _ => St.pure _) (fun _ => St.pure _) (fun _ => St.pure _)
  ⟨⟨_, bO.alloc _, World.ownsRow_nil _ _ _ _⟩, bS, hB1⟩ bS.cell ?assign ?body ?done ?stop
 case assign =>
  intro l x W K hK
  dsimp only [sgEnc]
  gi_wp2
  exact hK
 case body =>
  rintro l pre x W hl2 _ ⟨⟨v, hv, hrow⟩, b1, hB⟩ hR hadm
  have hpl : pre.length + 1 ≤ 2000000 := by
   obtain ⟨t, ht⟩ := hadm
   have := congrArg List.length ht
   simp at this; omega
  have hc := hv.cell
  have n1 := b1.not_row (by decide) hrow
  clear hadm hl hx
  gi_wp2_with (gi_at_builtin; go_must (refine wpListIn_append_own _ rfl _ _ 50 rfl w0.heap.size 3 i0 (.int .i64 0) 1 8 Tryz.underlying50 hi hz0 hz1 hz2 rfl (by decide) _ _ _ rfl (hrow.alloc _) ⟨W.heap.size, 0, none⟩ 1 1 [.int .i64 x] rfl rfl (cell_one_new _ _ _) (by simp [Value.oneCell']) (by unfold maxLen; omega) (by omega) (by have := hB.size; simp; omega) ?_; intro v' w1 hown' hgrow _; obtain ⟨g', cap', rfl⟩ := ownsRow_succ hown'; obtain ⟨hv1, hv2, hr2, hk2, hb2⟩ := hv.appended (by decide) hrow hB.size (Nat.le_refl _) hown' hgrow; have hc1 := hv1.cell; have hf1 := hv1.frozen; have c1 := ((b1.alloc _).kept hgrow n1).other (B' := w0.heap.size) (by omega) (.slice (some ⟨g', 0, none⟩) (pre.length + 1) cap')))
  have hB2 := hB.trans hb2
  refine ⟨hk2.from _, c1.cell, ⟨_, hv2, ?_⟩, c1, hB2⟩
  simpa [encI] using hr2
 case done =>
  rintro D ys W hD rfl ⟨⟨v, hv, hrow⟩, -, hB⟩ hR hK
  have hc := hv.cell
  have hsl := sl_of_owns (enc := encI) (fun _ _ => rfl) hrow
  gi_wp2
  refine leave1 hK (fun _ _ => results_tmp rfl _ _ _) ⟨_, rfl, ?_, ?_⟩
  ·exact (Kept.putObj (B := 0) _ (Nat.zero_le _) hK rfl).sl hsl
  ·exact hB0.trans (((Kept.putObj (B := w0.heap.size) (.deferred none) (by simp at hD; omega) hK rfl).below (Nat.le_refl _) (Nat.le_refl _) hB).mono hB0.size)
 case stop =>
  rintro D c pre W _ _ h _
  exact h.elim
end Go.Proofs.YtempicociampoaaGreatDoor
namespace Go.Proofs.YtempicociampoaaGreatDoor
open Go.Shelf Go.Lib Go.ChangeShapes Go.WideShapes Go.ChangeAt Go.RowKit

theorem accept_eq : (Rows.laid_unicode_utf8_acceptRanges : DataW Unit) = acceptData := by kernel_rfl
theorem first_eq : Rows.laid_unicode_utf8_first = firstData := Pinned.utf8First_eq

end Go.Proofs.YtempicociampoaaGreatDoor
