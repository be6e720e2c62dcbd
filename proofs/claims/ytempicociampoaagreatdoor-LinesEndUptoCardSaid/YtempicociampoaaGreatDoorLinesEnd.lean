/- LinesEnd: for every input up to a bulk the law returns true, and its arguments read as they did; the second form's card. -/
import Derived.Test.YtempicociampoaaGreatDoorLmF
import Derived.Test.YtempicociampoaaGreatDoorJ16
import Derived.Test.YtempicociampoaaGreatDoorCards
import Derived.Test.YtempicociampoaaGreatDoorTie
import Derived.Lay
import Derived.LaidOnce
import Derived.SevenTiedAt
import Derived.Deep.DeepHandedRow
namespace Go.Proofs.YtempicociampoaaGreatDoor.linesEnd
open Go.ChangeShapes Go.WideShapes Go.ChangeAt Go.RowKit

theorem own : ownKnob Tryz.prog.godebug = none := by kernel_rfl
theorem laidOut : laidOutB Tryz.prog = true := by kernel_rfl
theorem reads : ∀ t ∈ Tryz.f6.params.toList, Tryz.prog.readableRec t = true ∧ t < Tryz.prog.types.size := by
 rw [Tryz.params6]
 intro t ht
 simp at ht
 rcases ht with rfl | rfl
 all_goals exact ⟨by kernel_rfl, of_decide_eq_true (by kernel_rfl)⟩

set_option maxRecDepth 100000 in
/-- WHAT THE WALK GIVES, FOR EVERY ARGUMENT OF A BOUND BULK. -/
theorem contract (H : Type) (enc : TypeId × Value → H) (W : World) (base : Nat) (args : Array Value) (ds gs : List (DataW H)) (before : List MemPlace)
  (hval0 : ∀ (j : Nat) t v, Tryz.f6.params[j]? = some t → args[j]? = some v → Value.okWide Tryz.prog W .any base t v)
  (hW : DataW.Whole enc Tryz.prog Tryz.f6.params.toList Rows.linesEndSpec.vars false W args.toList ds gs before) (hL : laidMetH Tryz.prog tabList19 W)
  (hk : Rows.uptoSmall H (ds ++ gs) = true) :
  Calls Tryz.prog 6 args W fun e W' => ∃ v, e = .returned v ∧ Rows.linesEndSpec.post enc Tryz.prog Tryz.f6 false true false false W args v W' := by
 have hval : ∀ (j : Nat) t v, Tryz.f6.params[j]? = some t → args[j]? = some v → Value.okWide Tryz.prog W .any base t v := hval0
 have hW' := hW
 obtain ⟨p, q, hA0, hV, rfl, hfz, hnd⟩ := hW
 have hA : DataW.TrodAll enc Tryz.prog W 0 (fun _ => true) true Tryz.f6.params.toList args.toList ds p := hA0
 rw [Tryz.params6] at hA hval
 rw [MakeChecks.laidMetH_plain _ _ _ (by kernel_rfl)] at hL
 have hT : Tabs W := tabs_of19 hL
 have hR : Asp W := asp_of19 hL
 obtain ⟨v0, vs0, d0, ds0, p0, q0, hargs, rfl, rfl, h0, r0⟩ := trodAll_cons hA
 obtain ⟨v1, vs1, d1, ds1, p1, q1, rfl, rfl, rfl, h1, r1⟩ := trodAll_cons r0
 obtain ⟨rfl, rfl, rfl⟩ := trodAll_nil r1
 obtain rfl : args = #[v0, v1] := by cases args; simp_all
 obtain ⟨rfl, rfl⟩ := trodVars_none hV
 clear hA0 hval0
 have hbulk : Rows.uptoBulkAll ([d0, d1] ++ ([] : List (DataW H))) ≤ 1048576 := of_decide_eq_true hk
 simp only [Rows.uptoBulkAll, List.cons_append, List.nil_append] at hbulk
 obtain ⟨c0, y0, n0, rfl, k0, rfl, f0⟩ := struct_cells Tryz.underlying24 (by intro i f hi; match i, hi with | 0, hi => (simp at hi; subst hi; exact ⟨rfl, by kernel_rfl⟩) | 1, hi => (simp at hi; subst hi; exact ⟨rfl, by kernel_rfl⟩) | i + 2, hi => simp at hi) (hval 0 24 v0 rfl rfl) h0
 obtain ⟨kv0, wv0, rfl⟩ := two_of (k0.trans (by kernel_rfl))
 obtain ⟨u00, g00, t00⟩ := f0 0 _ _ rfl rfl
 obtain ⟨u01, g01, t01⟩ := f0 1 _ _ rfl rfl
 obtain ⟨kind0, e00, -, z0⟩ := DataW.trod_int Tryz.underlying3 t00
 obtain ⟨ws0, m0, hsl0⟩ := open_textsB Tryz.underlying22 Tryz.underlying9 (by kernel_rfl) t01
 simp only [List.cons.injEq, and_true] at e00
 subst e00
 have zk0 : w64 kind0 := by simpa [w64, Lit.wf, show IntKind.i64.min = -9223372036854775808 from rfl, show IntKind.i64.max = 9223372036854775807 from rfl] using z0
 have hsz0 : ∀ s ∈ ws0, s.size ≤ 2000000 := fun s hs => by
  have q1 := m0 s hs
  have q2 := part_le (H := H) (d := u01.1) (l := y0.map (·.1)) (List.mem_map.2 ⟨u01, List.mem_of_getElem? g01, rfl⟩)
  simp only [Rows.uptoBulk] at hbulk
  omega
 obtain ⟨c1, y1, n1, rfl, k1, rfl, f1⟩ := struct_cells Tryz.underlying26 (by intro i f hi; match i, hi with | 0, hi => (simp at hi; subst hi; exact ⟨rfl, by kernel_rfl⟩) | 1, hi => (simp at hi; subst hi; exact ⟨rfl, by kernel_rfl⟩) | 2, hi => (simp at hi; subst hi; exact ⟨rfl, by kernel_rfl⟩) | 3, hi => (simp at hi; subst hi; exact ⟨rfl, by kernel_rfl⟩) | 4, hi => (simp at hi; subst hi; exact ⟨rfl, by kernel_rfl⟩) | i + 5, hi => simp at hi) (hval 1 26 v1 rfl rfl) h1
 obtain ⟨s10, s11, s12, s13, s14, rfl⟩ := five_of (k1.trans (by kernel_rfl))
 obtain ⟨u10, g10, t10⟩ := f1 0 _ _ rfl rfl
 obtain ⟨x10, e10, -, z10⟩ := DataW.trod_int Tryz.underlying3 t10
 obtain ⟨u11, g11, t11⟩ := f1 1 _ _ rfl rfl
 obtain ⟨x11, e11, -, z11⟩ := DataW.trod_int Tryz.underlying3 t11
 obtain ⟨u12, g12, t12⟩ := f1 2 _ _ rfl rfl
 obtain ⟨x12, e12, -, z12⟩ := DataW.trod_int Tryz.underlying3 t12
 obtain ⟨u13, g13, t13⟩ := f1 3 _ _ rfl rfl
 obtain ⟨x13, e13, -, z13⟩ := DataW.trod_int Tryz.underlying3 t13
 obtain ⟨u14, g14, t14⟩ := f1 4 _ _ rfl rfl
 obtain ⟨x14, e14, -, z14⟩ := DataW.trod_int Tryz.underlying3 t14
 simp only [List.cons.injEq, and_true] at e10 e11 e12 e13 e14
 subst e10 e11 e12 e13 e14
 have zw1 : w64 x10 := by simpa [w64, Lit.wf, show IntKind.i64.min = -9223372036854775808 from rfl, show IntKind.i64.max = 9223372036854775807 from rfl] using z10
 refine (LinesEnd_any kind0 wv0 ws0 x10 x11 x12 x13 x14 W hsl0 hsz0 zw1 hT hR).mono fun e W' ⟨he, hB⟩ => ?_
 subst he
 exact ⟨_, rfl, law_post rfl hW' rfl rfl Tryz.underlying4 laidOut reads hB⟩

/-- THE WITNESS: the tables as they are laid, arguments of nothing. -/
noncomputable def args0 : Array Value := #[.agg #[.int .i64 0, .slice none 0 0], .agg #[.int .i64 0, .int .i64 0, .int .i64 0, .int .i64 0, .int .i64 0]]
theorem witness (os : Os) {H : Type} (enc : TypeId × Value → H) :
  (Rows.OpenSpec.upto Rows.linesEndSpec).preRow enc Tryz.prog Tryz.f6 Rows.linesEndUptoRow.domain false Rows.linesEndUptoRow.laid ((World.laidAll Tryz.prog os tabList19).forCall (fun _ _ => 0) ⟨#[], args0, []⟩).memory args0 := by
 have hw : (DataW.whole enc Tryz.prog ((World.laidAll Tryz.prog os tabList19).forCall (fun _ _ => 0) ⟨#[], args0, []⟩).memory Tryz.f6.params.toList Rows.linesEndSpec.vars false args0.toList 8).map (fun x => (Rows.uptoSmall H (x.1 ++ x.2.1))) =
   some true := by kernel_rfl
 obtain ⟨x, hx, hx1⟩ := Option.map_eq_some_iff.1 hw
 exact OpenSpec.preRow_of_cond 8 hx rfl (fun k hk => by cases hk; exact hx1) (by kernel_rfl) (by rw [MakeChecks.laidMetH_plain _ _ _ (by kernel_rfl)]; exact laidMet_laidAll _ (by kernel_rfl) (by kernel_rfl))

set_option maxRecDepth 100000 in
theorem liftedUpto (os : Os) (started : os.Started) (H : Type) (enc : TypeId × Value → H) (F : Stop.Interp) :
  ReturnsInHanded {} Tryz.checked os 6 .any ((Rows.OpenSpec.upto Rows.linesEndSpec).preRow enc Tryz.prog Tryz.f6 Rows.linesEndUptoRow.domain false Rows.linesEndUptoRow.laid) (((Rows.OpenSpec.upto Rows.linesEndSpec).at F).post enc Tryz.prog Tryz.f6 false true false false) := by
 refine returnsInHanded_of_row (C := Tryz.checked) (s := Rows.OpenSpec.upto Rows.linesEndSpec) own started (by kernel_rfl) Tryz.func6
  ⟨World.laidAll Tryz.prog os tabList19, fun _ _ => 0, ⟨#[], args0, []⟩, World.laidAll_os _ _ _, World.shaped_of_ZipB (by kernel_rfl) (by kernel_rfl), rfl, (Input.okWide_of_okWideB (by kernel_rfl)).2, witness os enc, by simp [Assume.holds]⟩ ?_
 intro W base args ds gs before hval hW _ hcond _ hL _ _
 exact contract H enc W base args ds gs before hval hW hL (hcond _ rfl)

theorem saidUpto : Rows.LinesEndUptoSaid :=
 OpenClaim.holds_of_cond 6 Tryz.f6 rfl rfl rfl rfl rfl rfl rfl ⟨rfl, rfl, rfl, rfl, rfl⟩ rfl rfl rfl rfl rfl (by kernel_rfl) Tryz.func6 (by kernel_rfl)
  (of_decide_eq_true (by kernel_rfl)) (by unfold Func.isWrapper; first | (rw [if_pos (by decide +kernel)]; kernel_rfl) | (rw [if_neg (by decide +kernel)]; exact ⟨rfl, rfl⟩))
  (fun os started H enc _ F => by rw [OpenClaim.pre_eq_preRow]; exact liftedUpto os started H enc F)

/-- No parameter wants a stand-in; the program's own looks are off. -/
theorem plain (f : FuncId) (fn : Func) (hf : Tryz.pinned.checked.prog.funcNamed "codex/codexlaw19.LinesEnd" = some f) (hfn : Tryz.pinned.checked.prog.funcs[f]? = some fn) :
  false = Tryz.pinned.checked.prog.looks [] ∧ ∀ (j : Nat) t, fn.params[j]? = some t → Tryz.pinned.checked.prog.wantsStandIn t = false := by
 obtain rfl : f = 6 := Option.some.inj ((show Tryz.prog.funcNamed "codex/codexlaw19.LinesEnd" = some 6 by kernel_rfl).symm.trans hf) |>.symm
 obtain rfl : fn = Tryz.f6 := (Option.some.inj (Tryz.func6.symm.trans hfn)).symm
 refine ⟨by kernel_rfl, fun j t ht => ?_⟩
 rw [Tryz.params6] at ht
 have hm := Array.mem_of_getElem? ht
 have hall : ([24, 26].all fun u => !Tryz.prog.wantsStandIn u) = true := by kernel_rfl
 exact (show Tryz.prog.wantsStandIn t = false by simpa using List.all_eq_true.1 hall t (by simpa using hm))

theorem holds : Rows.LinesEndUptoCardSaid :=
 Claim7.holds_tied_plain_at .later [] _ _ _ _ saidUpto (fun _ h => by cases h) (by kernel_rfl) (fun _ h => by cases h) linesEndUpto_row_tie rfl ⟨rfl, rfl⟩ (by kernel_rfl) rfl plain (by kernel_rfl)
end Go.Proofs.YtempicociampoaaGreatDoor.linesEnd
