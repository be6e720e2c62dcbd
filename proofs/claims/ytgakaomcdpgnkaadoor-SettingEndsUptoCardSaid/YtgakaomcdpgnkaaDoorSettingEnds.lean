/- SettingEnds: for every input up to a bulk the law returns true, and its arguments read as they did; the second form's card. -/
import Derived.Test.YtgakaomcdpgnkaaDoorEndC
import Derived.Test.YtgakaomcdpgnkaaDoorEndL
import Derived.Test.YtgakaomcdpgnkaaDoorUtfT
import Derived.Test.YtgakaomcdpgnkaaDoorCards
import Derived.Test.YtgakaomcdpgnkaaDoorTie
import Derived.Lay
import Derived.LaidOnce
import Derived.SevenTiedAt
import Derived.Deep.DeepHandedRow
namespace Go.Proofs.YtgakaomcdpgnkaaDoor.settingEnds
open Go.ChangeShapes Go.WideShapes Go.ChangeAt Go.RowKit

theorem own : ownKnob Tryd.prog.godebug = none := by kernel_rfl
theorem laidOut : laidOutB Tryd.prog = true := by kernel_rfl
theorem reads : ∀ t ∈ Tryd.f3.params.toList, Tryd.prog.readableRec t = true ∧ t < Tryd.prog.types.size := by
  rw [Tryd.params3]
  intro t ht
  simp at ht
  rcases ht with rfl | rfl | rfl
  all_goals exact ⟨by kernel_rfl, of_decide_eq_true (by kernel_rfl)⟩

/-- two one-cell fields of an aggregate -/
theorem two_of {cs : Array Value} (h : cs.size = 2) : ∃ a b, cs = #[a, b] := by
  obtain ⟨l⟩ := cs
  match l, h with
  | [a, b], _ => exact ⟨a, b, rfl⟩
theorem three_of {cs : Array Value} (h : cs.size = 3) : ∃ a b c, cs = #[a, b, c] := by
  obtain ⟨l⟩ := cs
  match l, h with
  | [a, b, c], _ => exact ⟨a, b, c, rfl⟩
theorem five_of {cs : Array Value} (h : cs.size = 5) : ∃ a b c d e, cs = #[a, b, c, d, e] := by
  obtain ⟨l⟩ := cs
  match l, h with
  | [a, b, c, d, e], _ => exact ⟨a, b, c, d, e, rfl⟩

set_option maxRecDepth 100000 in
/-- WHAT THE WALK GIVES, FOR EVERY ARGUMENT OF A BOUND BULK. -/
theorem contract (H : Type) (enc : TypeId × Value → H) (W : World) (base : Nat) (args : Array Value) (ds gs : List (DataW H)) (before : List MemPlace)
    (hval0 : ∀ (j : Nat) t v, Tryd.f3.params[j]? = some t → args[j]? = some v → Value.okWide Tryd.prog W .any base t v)
    (hW : DataW.Whole enc Tryd.prog Tryd.f3.params.toList Rows.settingEndsSpec.vars false W args.toList ds gs before) (hL : laidMetH Tryd.prog tabList W)
    (hk : Rows.uptoSmall H (ds ++ gs) = true) :
    Calls Tryd.prog 3 args W fun e W' => ∃ v, e = .returned v ∧ Rows.settingEndsSpec.post enc Tryd.prog Tryd.f3 false true false false W args v W' := by
  have hval : ∀ (j : Nat) t v, Tryd.f3.params[j]? = some t → args[j]? = some v → Value.okWide Tryd.prog W .any base t v := hval0
  have hW' := hW
  obtain ⟨p, q, hA0, hV, rfl, hfz, hnd⟩ := hW
  have hA : DataW.TrodAll enc Tryd.prog W 0 (fun _ => true) true Tryd.f3.params.toList args.toList ds p := hA0
  rw [Tryd.params3] at hA hval
  rw [MakeChecks.laidMetH_plain _ _ _ (by kernel_rfl)] at hL
  have hT : Tabs W := tabs_of hL
  obtain ⟨v0, vs0, d0, ds0, p0, q0, hargs, rfl, rfl, h0, r0⟩ := trodAll_cons hA
  obtain ⟨v1, vs1, d1, ds1, p1, q1, rfl, rfl, rfl, h1, r1⟩ := trodAll_cons r0
  obtain ⟨v2, vs2, d2, ds2, p2, q2, rfl, rfl, rfl, h2, r2⟩ := trodAll_cons r1
  obtain ⟨rfl, rfl, rfl⟩ := trodAll_nil r2
  obtain rfl : args = #[v0, v1, v2] := by cases args; simp_all
  obtain ⟨rfl, rfl⟩ := trodVars_none hV
  clear hA0 hval0
  obtain ⟨c0, y0, n0, rfl, k0, rfl, f0⟩ := struct_cells Tryd.underlying24 (by intro i f hi; match i, hi with | 0, hi => (simp at hi; subst hi; exact ⟨rfl, by kernel_rfl⟩) | 1, hi => (simp at hi; subst hi; exact ⟨rfl, by kernel_rfl⟩) | i + 2, hi => simp at hi) (hval 0 24 v0 rfl rfl) h0
  obtain ⟨c1, y1, n1, rfl, k1, rfl, f1⟩ := struct_cells Tryd.underlying26 (by intro i f hi; match i, hi with | 0, hi => (simp at hi; subst hi; exact ⟨rfl, by kernel_rfl⟩) | 1, hi => (simp at hi; subst hi; exact ⟨rfl, by kernel_rfl⟩) | 2, hi => (simp at hi; subst hi; exact ⟨rfl, by kernel_rfl⟩) | 3, hi => (simp at hi; subst hi; exact ⟨rfl, by kernel_rfl⟩) | 4, hi => (simp at hi; subst hi; exact ⟨rfl, by kernel_rfl⟩) | i + 5, hi => simp at hi) (hval 1 26 v1 rfl rfl) h1
  obtain ⟨c2, y2, n2, rfl, k2, rfl, f2⟩ := array_cells Tryd.underlying27 (by kernel_rfl) (hval 2 27 v2 rfl rfl) h2
  obtain ⟨kv, wv, rfl⟩ := two_of (k0.trans (by kernel_rfl))
  obtain ⟨av, bv, cv, dv, ev, rfl⟩ := five_of (k1.trans (by kernel_rfl))
  obtain ⟨xv, yv, zv, rfl⟩ := three_of (k2.trans (by kernel_rfl))
  obtain ⟨u00, g00, t00⟩ := f0 0 _ _ rfl rfl
  obtain ⟨u01, g01, t01⟩ := f0 1 _ _ rfl rfl
  obtain ⟨kind, e00, -, -⟩ := DataW.trod_int Tryd.underlying3 t00
  obtain ⟨ws, hsz0, hsl⟩ := open_textsB Tryd.underlying22 Tryd.underlying9 (by kernel_rfl) t01
  obtain ⟨u10, g10, t10⟩ := f1 0 _ _ rfl rfl
  obtain ⟨u11, g11, t11⟩ := f1 1 _ _ rfl rfl
  obtain ⟨u12, g12, t12⟩ := f1 2 _ _ rfl rfl
  obtain ⟨u13, g13, t13⟩ := f1 3 _ _ rfl rfl
  obtain ⟨u14, g14, t14⟩ := f1 4 _ _ rfl rfl
  obtain ⟨a, e10, -, -⟩ := DataW.trod_int Tryd.underlying3 t10
  obtain ⟨b, e11, -, -⟩ := DataW.trod_int Tryd.underlying3 t11
  obtain ⟨c, e12, -, -⟩ := DataW.trod_int Tryd.underlying3 t12
  obtain ⟨d, e13, -, -⟩ := DataW.trod_int Tryd.underlying3 t13
  obtain ⟨ind, e14, -, w14⟩ := DataW.trod_int Tryd.underlying3 t14
  obtain ⟨u20, g20, t20⟩ := f2 0 _ (by decide) rfl
  obtain ⟨u21, g21, t21⟩ := f2 1 _ (by decide) rfl
  obtain ⟨u22, g22, t22⟩ := f2 2 _ (by decide) rfl
  obtain ⟨x0, e20, -, w20⟩ := DataW.trod_int Tryd.underlying5 t20
  obtain ⟨x1, e21, -, w21⟩ := DataW.trod_int Tryd.underlying5 t21
  obtain ⟨x2, e22, -, w22⟩ := DataW.trod_int Tryd.underlying5 t22
  simp only [List.cons.injEq, and_true] at e00 e10 e11 e12 e13 e14 e20 e21 e22
  subst e00 e10 e11 e12 e13 e14 e20 e21 e22
  have zi : w64 ind := by simpa [w64, Lit.wf, show IntKind.i64.min = -9223372036854775808 from rfl, show IntKind.i64.max = 9223372036854775807 from rfl] using w14
  have z0 : 0 ≤ x0 ∧ x0 ≤ 255 := by simpa [Lit.wf, show IntKind.u8.min = 0 from rfl, show IntKind.u8.max = 255 from rfl] using w20
  have z1 : 0 ≤ x1 ∧ x1 ≤ 255 := by simpa [Lit.wf, show IntKind.u8.min = 0 from rfl, show IntKind.u8.max = 255 from rfl] using w21
  have z2 : 0 ≤ x2 ∧ x2 ≤ 255 := by simpa [Lit.wf, show IntKind.u8.min = 0 from rfl, show IntKind.u8.max = 255 from rfl] using w22
  have hsz : ∀ s ∈ ws, s.size ≤ 2000000 := by
    intro s hs
    have q1 := hsz0 s hs
    have q2 := part_le (H := H) (d := u01.1) (l := y0.map (·.1)) (List.mem_map.2 ⟨u01, List.mem_of_getElem? g01, rfl⟩)
    have q3 : Rows.uptoBulkAll (DataW.agg (y0.map (·.1)) :: ([.agg (y1.map (·.1)), .agg (y2.map (·.1))] ++ ([] : List (DataW H)))) ≤ 1048576 := of_decide_eq_true hk
    simp only [Rows.uptoBulkAll, Rows.uptoBulk] at q3
    omega
  refine (Ends_any kind wv ws a b c d ind x0 x1 x2 W hsl hsz zi z0 z1 z2 hT).mono fun e W' ⟨he, hB⟩ => ?_
  subst he
  exact ⟨_, rfl, law_post rfl hW' rfl rfl Tryd.underlying4 laidOut reads hB⟩

/-- THE WITNESS: the tables as they are laid, arguments of nothing. -/
noncomputable def args0 : Array Value := #[.agg #[.int .i64 0, .slice none 0 0], .agg #[.int .i64 0, .int .i64 0, .int .i64 0, .int .i64 0, .int .i64 0], .agg #[.int .u8 0, .int .u8 0, .int .u8 0]]
theorem witness (os : Os) {H : Type} (enc : TypeId × Value → H) :
    (Rows.OpenSpec.upto Rows.settingEndsSpec).preRow enc Tryd.prog Tryd.f3 Rows.settingEndsUptoRow.domain false Rows.settingEndsUptoRow.laid ((World.laidAll Tryd.prog os tabList).forCall (fun _ _ => 0) ⟨#[], args0, []⟩).memory args0 := by
  have hw : (DataW.whole enc Tryd.prog ((World.laidAll Tryd.prog os tabList).forCall (fun _ _ => 0) ⟨#[], args0, []⟩).memory Tryd.f3.params.toList Rows.settingEndsSpec.vars false args0.toList 8).map (fun x => (Rows.uptoSmall H (x.1 ++ x.2.1))) =
      some true := by kernel_rfl
  obtain ⟨x, hx, hx1⟩ := Option.map_eq_some_iff.1 hw
  exact OpenSpec.preRow_of_cond 8 hx rfl (fun k hk => by cases hk; exact hx1) (by kernel_rfl) (by rw [MakeChecks.laidMetH_plain _ _ _ (by kernel_rfl)]; exact laidMet_laidAll _ (by kernel_rfl) (by kernel_rfl))

set_option maxRecDepth 100000 in
theorem liftedUpto (os : Os) (started : os.Started) (H : Type) (enc : TypeId × Value → H) (F : Stop.Interp) :
    ReturnsInHanded {} Tryd.checked os 3 .any ((Rows.OpenSpec.upto Rows.settingEndsSpec).preRow enc Tryd.prog Tryd.f3 Rows.settingEndsUptoRow.domain false Rows.settingEndsUptoRow.laid) (((Rows.OpenSpec.upto Rows.settingEndsSpec).at F).post enc Tryd.prog Tryd.f3 false true false false) := by
  refine returnsInHanded_of_row (C := Tryd.checked) (s := Rows.OpenSpec.upto Rows.settingEndsSpec) own started (by kernel_rfl) Tryd.func3
    ⟨World.laidAll Tryd.prog os tabList, fun _ _ => 0, ⟨#[], args0, []⟩, World.laidAll_os _ _ _, World.shaped_of_ZipB (by kernel_rfl) (by kernel_rfl), rfl, (Input.okWide_of_okWideB (by kernel_rfl)).2, witness os enc, by simp [Assume.holds]⟩ ?_
  intro W base args ds gs before hval hW _ hcond _ hL _ _
  exact contract H enc W base args ds gs before hval hW hL (hcond _ rfl)

theorem saidUpto : Rows.SettingEndsUptoSaid :=
  OpenClaim.holds_of_cond 3 Tryd.f3 rfl rfl rfl rfl rfl rfl rfl ⟨rfl, rfl, rfl, rfl, rfl⟩ rfl rfl rfl rfl rfl (by kernel_rfl) Tryd.func3 (by kernel_rfl)
    (of_decide_eq_true (by kernel_rfl)) (by unfold Func.isWrapper; first | (rw [if_pos (by decide +kernel)]; kernel_rfl) | (rw [if_neg (by decide +kernel)]; exact ⟨rfl, rfl⟩))
    (fun os started H enc _ F => by rw [OpenClaim.pre_eq_preRow]; exact liftedUpto os started H enc F)

/-- No parameter wants a stand-in; the program's own looks are off. -/
theorem plain (f : FuncId) (fn : Func) (hf : Tryd.pinned.checked.prog.funcNamed "codex/codexlaw18.SettingEnds" = some f) (hfn : Tryd.pinned.checked.prog.funcs[f]? = some fn) :
    false = Tryd.pinned.checked.prog.looks [] ∧ ∀ (j : Nat) t, fn.params[j]? = some t → Tryd.pinned.checked.prog.wantsStandIn t = false := by
  obtain rfl : f = 3 := Option.some.inj ((show Tryd.prog.funcNamed "codex/codexlaw18.SettingEnds" = some 3 by kernel_rfl).symm.trans hf) |>.symm
  obtain rfl : fn = Tryd.f3 := (Option.some.inj (Tryd.func3.symm.trans hfn)).symm
  refine ⟨by kernel_rfl, fun j t ht => ?_⟩
  rw [Tryd.params3] at ht
  have hm := Array.mem_of_getElem? ht
  have hall : ([24, 26, 27].all fun u => !Tryd.prog.wantsStandIn u) = true := by kernel_rfl
  exact (show Tryd.prog.wantsStandIn t = false by simpa using List.all_eq_true.1 hall t (by simpa using hm))

theorem holds : Rows.SettingEndsUptoCardSaid :=
  Claim7.holds_tied_plain_at .later [] _ _ _ _ saidUpto (fun _ h => by cases h) (by kernel_rfl) (fun _ h => by cases h) settingEndsUpto_row_tie rfl ⟨rfl, rfl⟩ (by kernel_rfl) rfl plain (by kernel_rfl)
end Go.Proofs.YtgakaomcdpgnkaaDoor.settingEnds
