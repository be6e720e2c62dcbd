/- The walk of the document's items of a part (printed by gen_lqc.py). -/
import Derived.Test.YtempicociampoaaGreatDoorJ0
import Derived.Test.YtempicociampoaaGreatDoorLqB
namespace Go.Proofs.YtempicociampoaaGreatDoor
open Go.RowKit Go.Shelf Go.Lib

theorem encIt_len (l : List It) : ∀ x ∈ l, (encIt x).length = 6 := fun x h => (encIt_enc l x h).1
set_option maxRecDepth 100000 in
set_option maxHeartbeats 8000000 in
theorem ROf_any (kind : Int) (wv : Value) (ws : List ByteArray) (a b c d e : Int) (w : World) (hws : ws.length ≤ 300) (hsz : ∀ s ∈ ws, s.size ≤ 2000000) (hsl : Sl w 1 encS wv ws) :
  Calls Tryz.prog 20 #[.agg #[.int .i64 kind, wv], .agg #[.int .i64 a, .int .i64 b, .int .i64 c, .int .i64 d, .int .i64 e]] w fun r w' => ∃ v, r = .returned v ∧ w'.ownsRow w.heap.size 49 6 v (itemsOf kind e d ws).length ((itemsOf kind e d ws).flatMap encIt) ∧ Below w.heap.size w w' := by
 have hof : itemsOf kind e d ws = if kind < 1 ∨ 3 < kind then [] else itemsTo kind e d ws ws.length := rfl
 obtain ⟨i0, hi, hz0, hz1, hz2⟩ := info_parts Tryz.infoIt
 obtain ⟨pw, cw, rfl, hwx⟩ := hsl.shape
 have gP := (Kept.alloc 0 (w.alloc (.cells #[.int .i64 kind, .slice pw ws.length cw] 24)) (.cells #[.int .i64 a, .int .i64 b, .int .i64 c, .int .i64 d, .int .i64 e] 26)).same _ _ (World.alloc_heap_new w (.cells #[.int .i64 kind, .slice pw ws.length cw] 24)) (.inl rfl)
 have gS := World.alloc_heap_new (w.alloc (.cells #[.int .i64 kind, .slice pw ws.length cw] 24)) (.cells #[.int .i64 a, .int .i64 b, .int .i64 c, .int .i64 d, .int .i64 e] 26)
 have B2 := ((Below.refl w.heap.size w).alloc (Nat.le_refl _) (.cells #[.int .i64 kind, .slice pw ws.length cw] 24)).alloc (by simp) (.cells #[.int .i64 a, .int .i64 b, .int .i64 c, .int .i64 d, .int .i64 e] 26)
 obtain ⟨n₀, hn₀⟩ : ∃ n, w.heap.size = n := ⟨_, rfl⟩
 rw [World.size_alloc] at gS
 have hM : ((w.alloc (.cells #[.int .i64 kind, .slice pw ws.length cw] 24)).alloc (.cells #[.int .i64 a, .int .i64 b, .int .i64 c, .int .i64 d, .int .i64 e] 26)).heap.size = n₀ + 2 := by rw [World.size_alloc, World.size_alloc, hn₀]
 obtain ⟨V2, hV2⟩ : ∃ W : World, W = (w.alloc (.cells #[.int .i64 kind, .slice pw ws.length cw] 24)).alloc (.cells #[.int .i64 a, .int .i64 b, .int .i64 c, .int .i64 d, .int .i64 e] 26) := ⟨_, rfl⟩
 rw [← hV2] at gP gS B2 hM
 rw [hn₀] at gP gS B2 ⊢
 obtain ⟨M₀, hM₀⟩ : ∃ n, V2.heap.size = n := ⟨_, rfl⟩
 rw [hM₀] at hM
 have hsl2 := (Kept.of_below (hn₀ ▸ B2 : Below w.heap.size w V2) 0).sl hsl
 have kG := hid (fun V (h : Below M₀ V2 V) => (Kept.of_below (hM₀ ▸ h : Below V2.heap.size V2 V) 0))
 have kP0 := hid (fun V (h : Below M₀ V2 V) => (show V.cell? ⟨n₀, 0, none⟩ = some (.int .i64 kind) from cell_blk (i := 0) ((kG.out V h).same _ _ gP (.inl rfl)) rfl))
 have kP := hid (fun V (h : Below M₀ V2 V) => (show V.cell? ⟨n₀, 1, none⟩ = some (.slice pw ws.length cw) from cell_blk (i := 1) ((kG.out V h).same _ _ gP (.inl rfl)) rfl))
 have kS := hid (fun V (h : Below M₀ V2 V) => (show V.cell? ⟨n₀ + 1, 0, none⟩ = some (.int .i64 a) ∧ V.cell? ⟨n₀ + 1, 1, none⟩ = some (.int .i64 b) ∧ V.cell? ⟨n₀ + 1, 2, none⟩ = some (.int .i64 c) ∧ V.cell? ⟨n₀ + 1, 3, none⟩ = some (.int .i64 d) ∧ V.cell? ⟨n₀ + 1, 4, none⟩ = some (.int .i64 e) from ⟨cell_blk (i := 0) ((kG.out V h).same _ _ gS (.inl rfl)) rfl, cell_blk (i := 1) ((kG.out V h).same _ _ gS (.inl rfl)) rfl, cell_blk (i := 2) ((kG.out V h).same _ _ gS (.inl rfl)) rfl, cell_blk (i := 3) ((kG.out V h).same _ _ gS (.inl rfl)) rfl, cell_blk (i := 4) ((kG.out V h).same _ _ gS (.inl rfl)) rfl⟩))
 have cO := hid (fun (T : ByteArray) (hT : T.size ≤ 2000000) V => ROf1_any T V hT)
 have hil := itemsTo_len kind e d ws
 have hbg : itemsTo kind e d ws 0 = if kind = 1 ∧ 0 < e then [⟨1, e, 0, 0, 0, eb0⟩] else if kind = 3 then [boxT ⟨#[42]⟩, tieT] else [] := rfl
 have hbl := hil 0
 obtain ⟨BI, hBI⟩ : ∃ y, itemsTo kind e d ws 0 = y := ⟨_, rfl⟩
 rw [hBI] at hbg hbl
 replace hBI := hid hBI
 replace hbg := hid hbg
 replace hof := hid hof
 have hMn : n₀ < M₀ := by omega
 have hzM : M₀ ≤ V2.heap.size := by omega
 replace hM := hid hM
 replace hM₀ := hid hM₀
 clear gP gS hsl
 go_enter Tryz.func20, Tryz.ntmps20
 by_cases h1 : kind < 1
 ·go_upto_region 2 with (fail)
  rw [← hV2]
  clear hV2
  try simp only [hn₀]
  have q0 := kP0.out _ (Below.refl _ _)
  go_wp2_with (fail)
  go_ret
  rw [hof.out, if_pos (.inl h1)]
  exact ⟨_, rfl, World.ownsRow_nil _ _ _ _, B2⟩
 by_cases h3 : 3 < kind
 ·go_upto_region 2 with (fail)
  rw [← hV2]
  clear hV2
  try simp only [hn₀]
  have q0 := kP0.out _ (Below.refl _ _)
  go_wp2_with (fail)
  go_ret
  rw [hof.out, if_pos (.inr h3)]
  exact ⟨_, rfl, World.ownsRow_nil _ _ _ _, B2⟩
 have h1' : 1 ≤ kind := by omega
 have h3' : kind ≤ 3 := by omega
 have hof2 := hid (show itemsOf kind e d ws = itemsTo kind e d ws ws.length by rw [hof.out, if_neg (by omega)])
 clear h1 h3 hof
 go_upto_region 1 with (fail)
 rw [← hV2]
 clear hV2
 try simp only [hn₀]
 have q0 := kP0.out _ (Below.refl _ _)
 have q4 := (kS.out _ (Below.refl _ _)).2.2.2.2
 iterate 8 (first | go_values | go_skip | go_guarded | go_step | go_upon)
 go_cut [5] (fun v wx => ∃ u, v = u ∧ wx.ownsRow M₀ 49 6 u BI.length (BI.flatMap encIt) ∧ Below M₀ V2 wx)
 case first =>
  have r0 := World.ownsRow_nil V2 M₀ 49 6
  have bR := Below.refl M₀ V2
  by_cases k1 : kind = 1
  ·subst k1
   by_cases e1 : 0 < e
   ·have hBe : BI = [⟨1, e, 0, 0, 0, eb0⟩] := by rw [hbg.out, if_pos ⟨rfl, e1⟩]
    have o8 := hid ((Kept.alloc 0 V2 (.cells #[.int .i64 1, .int .i64 e, .int .i64 0, .int .i64 0, .int .i64 0, .string ⟨#[]⟩] 49)).owns r0)
    have B8 := hid (bR.alloc hzM (.cells #[.int .i64 1, .int .i64 e, .int .i64 0, .int .i64 0, .int .i64 0, .string ⟨#[]⟩] 49))
    have s8 := hid (sl_of_block (k := 6) (enc := encIt) (l := ([⟨1, e, 0, 0, 0, eb0⟩] : List It)) (cap := 1) (World.alloc_heap_new V2 (.cells #[.int .i64 1, .int .i64 e, .int .i64 0, .int .i64 0, .int .i64 0, .string ⟨#[]⟩] 49)) rfl (fun _ _ => rfl) (Nat.le_refl _) (by decide))
    have z9 : M₀ ≤ (V2.alloc (.cells #[.int .i64 1, .int .i64 e, .int .i64 0, .int .i64 0, .int .i64 0, .string ⟨#[]⟩] 49)).heap.size := by have z := hzM; rw [World.size_alloc]; omega
    clear r0 bR cO kP kP0 hbg
    go_wp2_with (at_builtin; go_must (refine wpList_append_sl rfl _ _ 40 rfl M₀ 49 i0 (.agg #[.int .i64 0, .int .i64 0, .int .i64 0, .int .i64 0, .int .i64 0, .string ⟨#[]⟩]) 6 56 Tryz.underlying40 hi hz0 hz1 hz2 rfl (by decide) _ _ _ rfl o8.out encIt _ [⟨1, e, 0, 0, 0, eb0⟩] rfl s8.out (encIt_enc _) (by unfold maxLen; simp only [List.length_cons, List.length_nil]; omega) (by simp only [List.length_cons, List.length_nil]; omega) z9 ?_; intro v9 w9 o9 hg9 n9))
    go_meet
    refine ⟨_, rfl, ?_, B8.out.grown hg9 z9 (fun j e9 => own_base2 o8.out e9)⟩
    rw [hBe]
    simpa using o9
   ·have hBe : BI = [] := by rw [hbg.out, if_neg (fun h => e1 h.2), if_neg (by omega)]
    go_wp2_with (fail)
    go_meet
    exact ⟨_, rfl, by rw [hBe]; exact r0, bR⟩
  ·by_cases k3 : kind = 3
   ·subst k3
    obtain ⟨TS, hTS⟩ : ∃ x, tm ⟨#[42]⟩ = x := ⟨_, rfl⟩
    have hBe : BI = [⟨1, TS, 0, 0, 0, ⟨#[42]⟩⟩, tieT] := by rw [hbg.out, if_neg (by omega), if_pos rfl]; unfold boxT; rw [hTS]
    have cO1 := cO.out ⟨#[42]⟩ (by decide)
    rw [hTS] at cO1
    replace cO1 := hid cO1
    clear hTS
    go_wp2_with (fail)
    refine (cO1.out _).mono ?_
    rintro r w7 ⟨rfl, b7⟩
    have o7 := (Kept.of_below b7 0).owns r0
    have b8 := bR.trans (b7.mono hzM)
    have z8 : M₀ ≤ w7.heap.size := Nat.le_trans hzM b8.size
    have o8 := hid ((Kept.alloc 0 w7 (.cells #[.int .i64 1, .int .i64 TS, .int .i64 0, .int .i64 0, .int .i64 0, .string ⟨#[42]⟩, .int .i64 2, .int .i64 4, .int .i64 0, .int .i64 0, .int .i64 0, .string ⟨#[]⟩] 49)).owns o7)
    have B8 := hid (b8.alloc z8 (.cells #[.int .i64 1, .int .i64 TS, .int .i64 0, .int .i64 0, .int .i64 0, .string ⟨#[42]⟩, .int .i64 2, .int .i64 4, .int .i64 0, .int .i64 0, .int .i64 0, .string ⟨#[]⟩] 49))
    have s8 := hid (sl_of_block (k := 6) (enc := encIt) (l := ([⟨1, TS, 0, 0, 0, ⟨#[42]⟩⟩, tieT] : List It)) (cap := 2) (World.alloc_heap_new w7 (.cells #[.int .i64 1, .int .i64 TS, .int .i64 0, .int .i64 0, .int .i64 0, .string ⟨#[42]⟩, .int .i64 2, .int .i64 4, .int .i64 0, .int .i64 0, .int .i64 0, .string ⟨#[]⟩] 49)) rfl (fun _ _ => rfl) (Nat.le_refl _) (by decide))
    have z9 : M₀ ≤ (w7.alloc (.cells #[.int .i64 1, .int .i64 TS, .int .i64 0, .int .i64 0, .int .i64 0, .string ⟨#[42]⟩, .int .i64 2, .int .i64 4, .int .i64 0, .int .i64 0, .int .i64 0, .string ⟨#[]⟩] 49)).heap.size := by have z := z8; rw [World.size_alloc]; omega
    clear r0 bR b7 o7 b8 cO kP kS kP0 hbg
    go_wp2_with (at_builtin; go_must (refine wpList_append_sl rfl _ _ 40 rfl M₀ 49 i0 (.agg #[.int .i64 0, .int .i64 0, .int .i64 0, .int .i64 0, .int .i64 0, .string ⟨#[]⟩]) 6 56 Tryz.underlying40 hi hz0 hz1 hz2 rfl (by decide) _ _ _ rfl o8.out encIt _ [⟨1, TS, 0, 0, 0, ⟨#[42]⟩⟩, tieT] rfl s8.out (encIt_enc _) (by unfold maxLen; simp only [List.length_cons, List.length_nil]; omega) (by simp only [List.length_cons, List.length_nil]; omega) z9 ?_; intro v9 w9 o9 hg9 n9))
    go_meet
    refine ⟨_, rfl, ?_, B8.out.grown hg9 z9 (fun j e9 => own_base2 o8.out e9)⟩
    rw [hBe]
    simpa using o9
   ·have hBe : BI = [] := by rw [hbg.out, if_neg (fun h => k1 h.1), if_neg k3]
    go_wp2_with (fail)
    go_meet
    exact ⟨_, rfl, by rw [hBe]; exact r0, bR⟩
 case rest =>
  obtain ⟨u0, rfl, hrow0, hBA⟩ := hcut
  clear q0 q4 hbg
  rw [← hBI.out] at hrow0
  clear hBI hbl
  go_wp2_with (fail)
  go_loopw [5, 6] (fun v i wr => ∃ k : Nat, k ≤ ws.length ∧ i = .int .i64 k ∧ (∃ u, v = u ∧ wr.ownsRow M₀ 49 6 u (itemsTo kind e d ws k).length ((itemsTo kind e d ws k).flatMap encIt)) ∧ Below M₀ V2 wr) (fun _ i _ => ws.length - (RowKit.intOf i).toNat)
  case atStart => exact ⟨0, by omega, rfl, ⟨_, rfl, hrow0⟩, hBA⟩
  case round =>
   obtain ⟨k, hk, rfl, ⟨_, rfl, hrow⟩, hB⟩ := hrel
   have hL0 := hil k
   obtain ⟨pv, cv, rfl, hv1, hv2⟩ := owns_shape hrow
   have hszB := hB.size
   have hzr : M₀ ≤ wr.heap.size := Nat.le_trans hzM hszB
   by_cases hkl : k < ws.length
   ·have hkI : (k : Int) < ws.length := by omega
    have hgd : ws.getD k eb0 = ws[k] := by rw [List.getD_eq_getElem?_getD, List.getElem?_eq_getElem hkl]; rfl
    have hsp : itemsTo kind e d ws (k + 1) = itemsTo kind e d ws k ++ (if 0 < k then [spaceT] else []) ++ (if kind = 2 then [boxT ws[k]] else wordI d ws[k]) := by rw [itemsTo, hgd]
    have hTs := hsz ws[k] (List.getElem_mem _)
    have hwl := wordI_len d ws[k]
    obtain ⟨bp, op, cp, hpe, -, -, -⟩ := hsl2.open (by rintro rfl; simp at hkl)
    obtain rfl := (Value.slice.inj hpe).1
    have kT := hid (fun V (h : Below M₀ V2 V) => (show V.cell? ⟨bp, op + k, none⟩ = some (.string ws[k]) from by
     obtain ⟨b8, o8, c8, e8, -, -, h8⟩ := ((kG.out V h).sl hsl2).open (by rintro rfl; simp at hkl)
     obtain ⟨h7, -, -⟩ := Value.slice.inj e8
     obtain ⟨rfl, rfl, -⟩ := Addr.mk.inj (Option.some.inj h7)
     have := rangeAt_one (h8 k _ (List.getElem?_eq_getElem hkl))
     rwa [Nat.mul_one] at this))
    have cW := hid (fun V => RWord_any ws[k] a b c d e V hTs)
    have cO1 := cO.out ws[k] (by omega)
    obtain ⟨L0, hL0e⟩ : ∃ y, itemsTo kind e d ws k = y := ⟨_, rfl⟩
    rw [hL0e] at hsp hrow hL0 ⊢
    obtain ⟨L1, hL1⟩ : ∃ L1, L0 ++ (if 0 < k then [spaceT] else []) = L1 := ⟨_, rfl⟩
    have hL1s : L1.length ≤ L0.length + 1 := by rw [← hL1, List.length_append]; split <;> simp
    rw [hL1] at hsp
    obtain ⟨WL, hWL⟩ : ∃ y, wordI d ws[k] = y := ⟨_, rfl⟩
    rw [hWL] at hsp hwl cW
    obtain ⟨TW, hTW⟩ : ∃ y, tm ws[k] = y := ⟨_, rfl⟩
    have hbx : boxT ws[k] = ⟨1, TW, 0, 0, 0, ws[k]⟩ := by unfold boxT; rw [hTW]
    rw [hbx] at hsp
    rw [hTW] at cO1
    obtain ⟨T, hT⟩ : ∃ y, ws[k] = y := ⟨_, rfl⟩
    rw [hT] at hsp cW cO1 kT
    replace cO1 := hid cO1
    replace hL1 := hid hL1
    replace hsp := hid hsp
    clear hgd hpe hbx hTW hWL hT hL0e cO
    have q1 := kP.out _ hB
    go_upto_if 48 with (fail)
    go_cut [5] (fun v wx => ∃ u, v = u ∧ wx.ownsRow M₀ 49 6 u L1.length (L1.flatMap encIt) ∧ Below M₀ V2 wx)
    case first =>
     by_cases k0 : 0 < k
     ·have k0I : (0 : Int) < k := by omega
      have o8 := hid ((Kept.alloc 0 wr (.cells #[.int .i64 2, .int .i64 4, .int .i64 2, .int .i64 1, .int .i64 0, .string ⟨#[]⟩] 49)).owns hrow)
      have B8 := hid (hB.alloc hzr (.cells #[.int .i64 2, .int .i64 4, .int .i64 2, .int .i64 1, .int .i64 0, .string ⟨#[]⟩] 49))
      have s8 := hid (sl_of_block (k := 6) (enc := encIt) (l := ([spaceT] : List It)) (cap := 1) (World.alloc_heap_new wr (.cells #[.int .i64 2, .int .i64 4, .int .i64 2, .int .i64 1, .int .i64 0, .string ⟨#[]⟩] 49)) rfl (fun _ _ => rfl) (Nat.le_refl _) (by decide))
      have z9 : M₀ ≤ (wr.alloc (.cells #[.int .i64 2, .int .i64 4, .int .i64 2, .int .i64 1, .int .i64 0, .string ⟨#[]⟩] 49)).heap.size := by have z := hzr; rw [World.size_alloc]; omega
      clear kP kS kP0 kT cW cO1 q1 hB
      go_wp2_with (at_builtin; go_must (refine wpList_append_sl rfl _ _ 40 rfl M₀ 49 i0 (.agg #[.int .i64 0, .int .i64 0, .int .i64 0, .int .i64 0, .int .i64 0, .string ⟨#[]⟩]) 6 56 Tryz.underlying40 hi hz0 hz1 hz2 rfl (by decide) _ _ _ rfl o8.out encIt _ [spaceT] rfl s8.out (encIt_enc _) (by unfold maxLen; simp only [List.length_cons, List.length_nil]; omega) (by simp only [List.length_cons, List.length_nil]; omega) z9 ?_; intro v9 w9 o9 hg9 n9))
      go_meet
      refine ⟨_, rfl, ?_, B8.out.grown hg9 z9 (fun j e9 => own_base2 o8.out e9)⟩
      rw [← hL1.out, if_pos k0, List.length_append, List.flatMap_append]
      exact o9
     ·have k0I : ¬ (0 : Int) < k := by omega
      go_wp2_with (fail)
      go_meet
      refine ⟨_, rfl, ?_, hB⟩
      rw [← hL1.out, if_neg k0, List.append_nil]
      exact hrow
    case rest =>
     obtain ⟨u1, rfl, rc, Bc⟩ := hcut
     have zc := Bc.size
     have zc2 : M₀ ≤ wc.heap.size := Nat.le_trans hzM zc
     obtain ⟨pq, cq, rfl, hq1, hq2⟩ := owns_shape rc
     have q0 := kP0.out _ Bc
     have q1 := kP.out _ Bc
     have qT := kT.out _ Bc
     clear hrow hB hL1
     by_cases k2 : kind = 2
     ·subst k2
      go_upto_region 14 with (fail)
      go_wp2_with (fail)
      refine (cO1.out _).mono ?_
      rintro r w7 ⟨rfl, b7⟩
      have o7 := (Kept.of_below b7 0).owns rc
      have b8 := Bc.trans (b7.mono zc2)
      have z8 : M₀ ≤ w7.heap.size := Nat.le_trans hzM b8.size
      clear rc Bc b7 q0 q1 qT
      have o8 := hid ((Kept.alloc 0 w7 (.cells #[.int .i64 1, .int .i64 TW, .int .i64 0, .int .i64 0, .int .i64 0, .string T] 49)).owns o7)
      have B8 := hid (b8.alloc z8 (.cells #[.int .i64 1, .int .i64 TW, .int .i64 0, .int .i64 0, .int .i64 0, .string T] 49))
      have s8 := hid (sl_of_block (k := 6) (enc := encIt) (l := ([⟨1, TW, 0, 0, 0, T⟩] : List It)) (cap := 1) (World.alloc_heap_new w7 (.cells #[.int .i64 1, .int .i64 TW, .int .i64 0, .int .i64 0, .int .i64 0, .string T] 49)) rfl (fun _ _ => rfl) (Nat.le_refl _) (by decide))
      have z9 : M₀ ≤ (w7.alloc (.cells #[.int .i64 1, .int .i64 TW, .int .i64 0, .int .i64 0, .int .i64 0, .string T] 49)).heap.size := by have z := z8; rw [World.size_alloc]; omega
      clear o7 b8
      go_upto_region 10 with (at_builtin; go_must (refine wpList_append_sl rfl _ _ 40 rfl M₀ 49 i0 (.agg #[.int .i64 0, .int .i64 0, .int .i64 0, .int .i64 0, .int .i64 0, .string ⟨#[]⟩]) 6 56 Tryz.underlying40 hi hz0 hz1 hz2 rfl (by decide) _ _ _ rfl o8.out encIt _ [⟨1, TW, 0, 0, 0, T⟩] rfl s8.out (encIt_enc _) (by unfold maxLen; simp only [List.length_cons, List.length_nil]; omega) (by simp only [List.length_cons, List.length_nil]; omega) z9 ?_; intro v9 w9 o9 hg9 n9))
      have hH := B8.out.grown hg9 z9 (fun j e9 => own_base2 o8.out e9)
      obtain ⟨vq, vc, rfl, -, -⟩ := owns_shape o9
      have hof : w9.ownsRow M₀ 49 6 (.slice vq (L1.length + [(⟨1, TW, 0, 0, 0, T⟩ : It)].length) vc) (itemsTo 2 e d ws (k + 1)).length ((itemsTo 2 e d ws (k + 1)).flatMap encIt) := by
       rw [hsp.out, if_pos (by trivial), List.length_append, List.flatMap_append]
       exact o9
      replace hof := hid hof
      clear o9 o8 hg9 n9 z9 s8 B8 kT cW cO1
      go_wp2_with (fail)
      exact ⟨⟨k + 1, by omega, by go_num, ⟨_, rfl, hof.out⟩, hH⟩, by simp [RowKit.intOf]; omega⟩
     ·go_upto_region 15 with (fail)
      obtain ⟨Wq, hWq⟩ : ∃ W : World, W = wc := ⟨_, rfl⟩
      subst hWq
      have o5 : Wq.drew.ownsRow M₀ 49 6 (.slice pq L1.length cq) L1.length (L1.flatMap encIt) := (Kept.of_below ((Below.refl _ Wq).drewN 1) 0).owns rc
      have hst : (fun V => Below M₀ V2 V) Wq.drew := Bc.drewN 1
      clear rc Bc q0 q1 qT zc zc2 cO1
      refine wp_region_held_drew (S := (fun V => Below M₀ V2 V)) (by kernel_rfl) hst (fun hHeld => ?_)
      generalize Wq.drew = W5 at *
      refine tkH 0 (some 65) ?_ rfl (Or.inl ⟨by rfl, ?_⟩) ?_; rotate_left
      ·intro w hSw; (try dsimp only at hSw); go_simp <;> with_reducible rfl
      try simp only [Act.put, aS, aZ, aC]
      refine tkH 1 (some 66) ?_ rfl (Or.inl ⟨by rfl, ?_⟩) ?_; rotate_left
      ·intro w hSw; (try dsimp only at hSw); go_simp <;> with_reducible rfl
      try simp only [Act.put, aS, aZ, aC]
      refine tkH 2 (some 67) ?_ rfl (Or.inl ⟨by rfl, ?_⟩) ?_; rotate_left
      ·intro w hSw; (try dsimp only at hSw); have h9 := kP.out _ hSw; go_simp <;> with_reducible rfl
      try simp only [Act.put, aS, aZ, aC]
      refine tkH 3 (some 68) ?_ rfl (Or.inl ⟨by rfl, ?_⟩) ?_; rotate_left
      ·intro w hSw; (try dsimp only at hSw); go_simp <;> with_reducible rfl
      try simp only [Act.put, aS, aZ, aC]
      refine tkH 4 (some 69) ?_ rfl (Or.inl ⟨by rfl, ?_⟩) ?_; rotate_left
      ·intro w hSw; (try dsimp only at hSw); go_simp <;> with_reducible rfl
      try simp only [Act.put, aS, aZ, aC]
      refine tkH 5 (some 70) ?_ rfl (Or.inl ⟨by rfl, ?_⟩) ?_; rotate_left
      ·intro w hSw; (try dsimp only at hSw); have h9 := kT.out _ hSw; go_simp <;> with_reducible rfl
      try simp only [Act.put, aS, aZ, aC]
      refine tkH 6 (some 71) ?_ rfl (Or.inl ⟨by rfl, ?_⟩) ?_; rotate_left
      ·intro w hSw; (try dsimp only at hSw); obtain ⟨h0, h1, h2, h3, h4⟩ := kS.out _ hSw; go_simp <;> with_reducible rfl
      try simp only [Act.put, aS, aZ, aC]
      refine wpAnyH_ready (rs := [7]) (by kernel_rfl) (by simp) ?_
      refine AllReadyH.cons (o := ⟨some 72, _, _, _, _, _⟩) rfl (fun K hK => ?_) AllReadyH.nil
      go_simp
      refine (cW.out _).mono ?_
      rintro r w7 ⟨v7, rfl, q7, b7⟩
      have o7 := (Kept.of_below b7 0).owns o5
      have hMs2 := hHeld.size
      have b8 := hHeld.trans (b7.mono (by omega))
      have s7 := sl_of_owns (encIt_len WL) q7
      have z7 : M₀ ≤ w7.heap.size := Nat.le_trans (by omega) b7.size
      clear hHeld b7 o5 q7 hMs2
      refine hK.out _ _ (b8) (fun hHeld => ?_)
      clear hK K
      try simp only [Act.put, aS, aZ, aC]
      refine wpAnyH_ready (rs := [8]) (by kernel_rfl) (by simp) ?_
      refine AllReadyH.cons (o := ⟨some 73, _, _, _, _, _⟩) rfl (fun K hK => ?_) AllReadyH.nil
      refine (if_pos (by rfl)).mpr ?_
      refine wp_append_slG _ _ 40 rfl M₀ 49 i0 (.agg #[.int .i64 0, .int .i64 0, .int .i64 0, .int .i64 0, .int .i64 0, .string ⟨#[]⟩]) 6 56 Tryz.underlying40 hi hz0 hz1 hz2 rfl (by decide) _ _ _ rfl o7 encIt _ WL rfl s7 (encIt_enc _) (by unfold maxLen; omega) (by omega) z7 (fun v9 w9 o9 hg9 n9 => hK.out _ _ ?_ (fun hHeld => ?_))
      ·exact hHeld.grown hg9 z7 (fun j e9 => own_base2 o7 e9)
      clear hK K
      try simp only [Act.put, aS, aZ, aC]
      refine tkH 9 (some 5) ?_ rfl (Or.inl ⟨by rfl, ?_⟩) ?_; rotate_left
      ·intro w hSw; (try dsimp only at hSw); go_simp <;> with_reducible rfl
      try simp only [Act.put, aS, aZ, aC]
      refine wpAnyH_done (by kernel_rfl) ?_ _
      skip
      obtain ⟨vq, vc, rfl, -, -⟩ := owns_shape o9
      have hof : w9.ownsRow M₀ 49 6 (.slice vq (L1.length + WL.length) vc) (itemsTo kind e d ws (k + 1)).length ((itemsTo kind e d ws (k + 1)).flatMap encIt) := by
       rw [hsp.out, if_neg (by first | exact k2 | exact id), List.length_append, List.flatMap_append]
       exact o9
      replace hof := hid hof
      clear o9 o7 hg9 n9 z7 s7 kT cW
      go_wp2_with (fail)
      exact ⟨⟨k + 1, by omega, by go_num, ⟨_, rfl, hof.out⟩, hHeld⟩, by simp [RowKit.intOf]; omega⟩
   ·obtain rfl : k = ws.length := by omega
    have q1 := kP.out _ hB
    go_wp2_with (fail)
    go_ret
    rw [hof2.out]
    exact ⟨_, rfl, owns_down (by omega) hrow, B2.trans (hB.mono (by omega))⟩
end Go.Proofs.YtempicociampoaaGreatDoor
