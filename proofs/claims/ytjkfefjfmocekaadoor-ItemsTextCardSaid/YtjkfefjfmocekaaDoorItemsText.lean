/- ItemsText: for every input the law returns true, and its arguments read as they did; the card. -/
import Derived.Test.YtjkfefjfmocekaaDoorItT
import Derived.Test.YtjkfefjfmocekaaDoorItI
import Derived.Test.YtjkfefjfmocekaaDoorCards
import Derived.Test.YtjkfefjfmocekaaDoorTie
import Derived.Lay
import Derived.LaidOnce
import Derived.SevenTiedAt
namespace Go.Proofs.YtjkfefjfmocekaaDoor.itemsText
open Go.ChangeShapes Go.WideShapes Go.ChangeAt Go.RowKit
open Go.ChangeMaps (open_string shut_string)

theorem own : ownKnob Tryd.prog.godebug = none := by kernel_rfl
theorem laidOut : laidOutB Tryd.prog = true := by kernel_rfl
theorem reads : ∀ t ∈ Tryd.f3.params.toList, Tryd.prog.readableRec t = true ∧ t < Tryd.prog.types.size := by
  rw [Tryd.params3]
  intro t ht
  simp at ht
  rcases ht with rfl | rfl
  all_goals exact ⟨by kernel_rfl, of_decide_eq_true (by kernel_rfl)⟩

set_option maxRecDepth 100000 in
theorem lifted (os : Os) (started : os.Started) (H : Type) (enc : TypeId × Value → H) :
    ReturnsInHanded {} Tryd.checked os 3 .any (fun w args => (Rows.itemsTextSpec.pre enc Tryd.prog Tryd.f3 [] false w args ∧ laidMetH Tryd.prog tabList14 w) ∧ sizedMet enc Tryd.prog Tryd.f3 (OpenSpec.ofChange Rows.itemsTextSpec) false w args)
      (Rows.itemsTextSpec.post enc Tryd.prog Tryd.f3 false true false false) := by
  refine returnsInHanded_of_change_and (C := Tryd.checked) (X := fun w _ => laidMetH Tryd.prog tabList14 w) (fun _ _ _ hh h => h.of_heap hh) own started (by kernel_rfl) Tryd.func3
    (ChangeSpec.witness_shaped (enc := enc) (C := Tryd.checked) (os := os) (X := fun w _ => laidMetH Tryd.prog tabList14 w) false (World.laidAll Tryd.prog os tabList14) #[.agg #[.int .i64 0, .slice none 0 0], .agg #[.int .i64 0, .int .i64 0, .int .i64 0, .int .i64 0, .int .i64 0]] 8 (World.laidAll_os _ _ _)
      (World.shaped_of_ZipB (by kernel_rfl) (by kernel_rfl)) (by kernel_rfl) (by kernel_rfl) (by kernel_rfl)
      (by rw [MakeChecks.laidMetH_plain _ _ _ (by kernel_rfl)]; exact laidMet_laidAll _ (by kernel_rfl) (by kernel_rfl))) ?_
  intro W base args ds gs before hval0 hW _ _ hL _
  have hval : ∀ (j : Nat) t v, Tryd.f3.params[j]? = some t → args[j]? = some v → Value.okWide Tryd.prog W .any base t v := hval0
  have hW' := hW
  obtain ⟨p, q, hA0, hV, rfl, hfz, hnd⟩ := hW
  have hA : DataW.TrodAll enc Tryd.prog W 0 (fun _ => true) true Tryd.f3.params.toList args.toList ds p := hA0
  rw [Tryd.params3] at hA hval
  rw [MakeChecks.laidMetH_plain _ _ _ (by kernel_rfl)] at hL
  have hT : Tabs W := tabs_of14 hL
  have hR : Asp W := asp_of14 hL
  obtain ⟨v0, vs0, d0, ds0, p0, q0, hargs, rfl, rfl, h0, r0⟩ := trodAll_cons hA
  obtain ⟨v1, vs1, d1, ds1, p1, q1, rfl, rfl, rfl, h1, r1⟩ := trodAll_cons r0
  obtain ⟨rfl, rfl, rfl⟩ := trodAll_nil r1
  obtain rfl : args = #[v0, v1] := by cases args; simp_all
  obtain ⟨rfl, rfl⟩ := trodVars_none hV
  clear hA0 hval0
  obtain ⟨c0, y0, n0, rfl, k0, rfl, f0⟩ := struct_cells Tryd.underlying24 (by intro i f hi; match i, hi with | 0, hi => (simp at hi; subst hi; exact ⟨rfl, by kernel_rfl⟩) | 1, hi => (simp at hi; subst hi; exact ⟨rfl, by kernel_rfl⟩) | i + 2, hi => simp at hi) (hval 0 24 v0 rfl rfl) h0
  obtain ⟨kv0, wv0, rfl⟩ := two_of (k0.trans (by kernel_rfl))
  obtain ⟨u00, g00, t00⟩ := f0 0 _ _ rfl rfl
  obtain ⟨u01, g01, t01⟩ := f0 1 _ _ rfl rfl
  obtain ⟨kind0, e00, -, z0⟩ := DataW.trod_int Tryd.underlying3 t00
  obtain ⟨ws0, hsz0, hsl0⟩ := open_texts Tryd.underlying22 Tryd.underlying9 (by kernel_rfl) t01
  simp only [List.cons.injEq, and_true] at e00
  subst e00
  obtain ⟨c1, y1, n1, rfl, k1, rfl, f1⟩ := struct_cells Tryd.underlying26 (by intro i f hi; match i, hi with | 0, hi => (simp at hi; subst hi; exact ⟨rfl, by kernel_rfl⟩) | 1, hi => (simp at hi; subst hi; exact ⟨rfl, by kernel_rfl⟩) | 2, hi => (simp at hi; subst hi; exact ⟨rfl, by kernel_rfl⟩) | 3, hi => (simp at hi; subst hi; exact ⟨rfl, by kernel_rfl⟩) | 4, hi => (simp at hi; subst hi; exact ⟨rfl, by kernel_rfl⟩) | i + 5, hi => simp at hi) (hval 1 26 v1 rfl rfl) h1
  obtain ⟨s10, s11, s12, s13, s14, rfl⟩ := five_of (k1.trans (by kernel_rfl))
  obtain ⟨u10, g10, t10⟩ := f1 0 _ _ rfl rfl
  obtain ⟨x10, e10, -, z10⟩ := DataW.trod_int Tryd.underlying3 t10
  obtain ⟨u11, g11, t11⟩ := f1 1 _ _ rfl rfl
  obtain ⟨x11, e11, -, z11⟩ := DataW.trod_int Tryd.underlying3 t11
  obtain ⟨u12, g12, t12⟩ := f1 2 _ _ rfl rfl
  obtain ⟨x12, e12, -, z12⟩ := DataW.trod_int Tryd.underlying3 t12
  obtain ⟨u13, g13, t13⟩ := f1 3 _ _ rfl rfl
  obtain ⟨x13, e13, -, z13⟩ := DataW.trod_int Tryd.underlying3 t13
  obtain ⟨u14, g14, t14⟩ := f1 4 _ _ rfl rfl
  obtain ⟨x14, e14, -, z14⟩ := DataW.trod_int Tryd.underlying3 t14
  simp only [List.cons.injEq, and_true] at e10 e11 e12 e13 e14
  subst e10 e11 e12 e13 e14
  refine (ItemsText_any kind0 wv0 ws0 x10 x11 x12 x13 x14 W hsl0 hT hR).mono fun e W' ⟨he, hB⟩ => ?_
  subst he
  exact ⟨_, rfl, law_post rfl hW' rfl rfl Tryd.underlying4 laidOut reads hB⟩

theorem said : Rows.ItemsTextSaid :=
  OpenClaim.holds_of_wide 3 Tryd.f3 rfl rfl rfl rfl rfl rfl rfl ⟨rfl, rfl, rfl, rfl, rfl⟩ rfl rfl rfl rfl rfl (by kernel_rfl) Tryd.func3 (by kernel_rfl)
    (of_decide_eq_true (by kernel_rfl)) (by unfold Func.isWrapper; first | (rw [if_pos (by decide +kernel)]; kernel_rfl) | (rw [if_neg (by decide +kernel)]; exact ⟨rfl, rfl⟩))
    (fun os started H enc _ => lifted os started H enc)

/-- No parameter wants a stand-in; the program's own looks are off. -/
theorem plain (f : FuncId) (fn : Func) (hf : Tryd.pinned.checked.prog.funcNamed "codex/codexlaw14.ItemsText" = some f) (hfn : Tryd.pinned.checked.prog.funcs[f]? = some fn) :
    false = Tryd.pinned.checked.prog.looks [] ∧ ∀ (j : Nat) t, fn.params[j]? = some t → Tryd.pinned.checked.prog.wantsStandIn t = false := by
  obtain rfl : f = 3 := Option.some.inj ((show Tryd.prog.funcNamed "codex/codexlaw14.ItemsText" = some 3 by kernel_rfl).symm.trans hf) |>.symm
  obtain rfl : fn = Tryd.f3 := (Option.some.inj (Tryd.func3.symm.trans hfn)).symm
  refine ⟨by kernel_rfl, fun j t ht => ?_⟩
  rw [Tryd.params3] at ht
  have hm := Array.mem_of_getElem? ht
  have hall : ([24, 26].all fun u => !Tryd.prog.wantsStandIn u) = true := by kernel_rfl
  exact (show Tryd.prog.wantsStandIn t = false by simpa using List.all_eq_true.1 hall t (by simpa using hm))

theorem holds : Rows.ItemsTextCardSaid :=
  Claim7.holds_tied_plain_at .later [] _ _ _ _ said (fun _ h => by cases h) (by kernel_rfl) (fun _ h => by cases h) itemsText_row_tie rfl ⟨rfl, rfl⟩ (by kernel_rfl) rfl plain (by kernel_rfl)
end Go.Proofs.YtjkfefjfmocekaaDoor.itemsText
