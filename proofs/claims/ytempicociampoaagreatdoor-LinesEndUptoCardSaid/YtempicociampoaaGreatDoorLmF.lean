/- The walk of LinesEnd (printed by gen_lme.py). -/
import Derived.Test.YtempicociampoaaGreatDoorJ0
import Derived.Test.YtempicociampoaaGreatDoorLmW
import Derived.Test.YtempicociampoaaGreatDoorLqC
import Derived.Test.YtempicociampoaaGreatDoorJ9
import Derived.Test.YtempicociampoaaGreatDoorMkX
import Derived.Test.YtempicociampoaaGreatDoorJ7
namespace Go.Proofs.YtempicociampoaaGreatDoor
open Go.RowKit Go.Shelf Go.Lib

set_option maxRecDepth 100000 in
set_option maxHeartbeats 16000000 in
theorem LinesEnd_any (kind : Int) (wv : Value) (ws : List ByteArray) (a b c d e : Int) (w : World) (hsl : Sl w 1 encS wv ws) (hsz : ∀ s ∈ ws, s.size ≤ 2000000) (ha : w64 a) (hT : Tabs w) (hR : Asp w) :
  Calls Tryz.prog 6 #[.agg #[.int .i64 kind, wv], .agg #[.int .i64 a, .int .i64 b, .int .i64 c, .int .i64 d, .int .i64 e]] w fun r w' => r = .returned (.bool true) ∧ Below w.heap.size w w' := by
 obtain ⟨pw, cw, rfl, hmN⟩ := hsl.shape
 unfold maxLen at hmN
 obtain ⟨N, hN⟩ : ∃ n, ws.length = n := ⟨_, rfl⟩
 rw [hN] at hsl hmN ⊢
 have gP := (Kept.alloc 0 (w.alloc (.cells #[.int .i64 kind, .slice pw N cw] 24)) (.cells #[.int .i64 a, .int .i64 b, .int .i64 c, .int .i64 d, .int .i64 e] 26)).same _ _ (World.alloc_heap_new w (.cells #[.int .i64 kind, .slice pw N cw] 24)) (.inl rfl)
 have gS := World.alloc_heap_new (w.alloc (.cells #[.int .i64 kind, .slice pw N cw] 24)) (.cells #[.int .i64 a, .int .i64 b, .int .i64 c, .int .i64 d, .int .i64 e] 26)
 have hB0 := ((Below.refl w.heap.size w).alloc (Nat.le_refl _) (.cells #[.int .i64 kind, .slice pw N cw] 24)).alloc (by simp) (.cells #[.int .i64 a, .int .i64 b, .int .i64 c, .int .i64 d, .int .i64 e] 26)
 obtain ⟨n₀, hn₀⟩ : ∃ n, w.heap.size = n := ⟨_, rfl⟩
 rw [World.size_alloc] at gS
 obtain ⟨W1, hW1⟩ : ∃ W : World, W = (w.alloc (.cells #[.int .i64 kind, .slice pw N cw] 24)).alloc (.cells #[.int .i64 a, .int .i64 b, .int .i64 c, .int .i64 d, .int .i64 e] 26) := ⟨_, rfl⟩
 rw [← hW1, hn₀] at gP gS hB0
 rw [hn₀]
 have hz1 : n₀ ≤ W1.heap.size := by have := hB0.size; omega
 have kS := hid (fun W (h : Below W1.heap.size W1 W) => (show W.cell? ⟨n₀ + 1, 0, none⟩ = some (.int .i64 a) ∧ W.cell? ⟨n₀ + 1, 1, none⟩ = some (.int .i64 b) ∧ W.cell? ⟨n₀ + 1, 2, none⟩ = some (.int .i64 c) ∧ W.cell? ⟨n₀ + 1, 3, none⟩ = some (.int .i64 d) ∧ W.cell? ⟨n₀ + 1, 4, none⟩ = some (.int .i64 e) from ⟨cell_blk (i := 0) ((Kept.of_below h 0).same _ _ gS (.inl rfl)) rfl, cell_blk (i := 1) ((Kept.of_below h 0).same _ _ gS (.inl rfl)) rfl, cell_blk (i := 2) ((Kept.of_below h 0).same _ _ gS (.inl rfl)) rfl, cell_blk (i := 3) ((Kept.of_below h 0).same _ _ gS (.inl rfl)) rfl, cell_blk (i := 4) ((Kept.of_below h 0).same _ _ gS (.inl rfl)) rfl⟩))
 have kP0 := hid (fun W (h : Below W1.heap.size W1 W) => (show W.cell? ⟨n₀, 0, none⟩ = some (.int .i64 kind) from cell_blk (i := 0) ((Kept.of_below h 0).same _ _ gP (.inl rfl)) rfl))
 have kP1 := hid (fun W (h : Below W1.heap.size W1 W) => (show W.cell? ⟨n₀, 1, none⟩ = some (.slice pw N cw) from cell_blk (i := 1) ((Kept.of_below h 0).same _ _ gP (.inl rfl)) rfl))
 have hTW := hid (fun W (h : Below W1.heap.size W1 W) => hT.below (hn₀ ▸ hB0.trans (h.mono hz1)))
 have hRW := hid (fun W (h : Below W1.heap.size W1 W) => hR.below (hn₀ ▸ hB0.trans (h.mono hz1)))
 have hWs := hid (fun W (h : Below W1.heap.size W1 W) => (Kept.of_below (hn₀ ▸ hB0.trans (h.mono hz1) : Below w.heap.size w W) 0).sl hsl)
 have cK := hid (fun W (h : Below W1.heap.size W1 W) => wakes19 W (hTW.out W h) (hRW.out W h))
 have cG := hid (rGoodS_any a b c d e W1)
 obtain ⟨gb, hgb⟩ : ∃ x, goodS a b c d e = x := ⟨_, rfl⟩
 rw [hgb] at cG
 have cH := hid (fun W (h : Below W1.heap.size W1 W) (v : Value) (hv : Sl W 2 encPt v [(kind, .slice pw N cw, ws)]) => rGood_any v [(kind, .slice pw N cw, ws)] W hv (fun x hx => by obtain rfl := List.mem_singleton.1 hx; exact hWs.out W h) (fun x hx => by obtain rfl := List.mem_singleton.1 hx; exact hsz))
 obtain ⟨hb, hhb⟩ : ∃ x, allG [(kind, Value.slice pw N cw, ws)] = x := ⟨_, rfl⟩
 rw [hhb] at cH
 have hgood : hb = true → (∀ s ∈ ws, goodW s.data.toList) ∧ (kind ≠ 4 → (1 ≤ kind ∧ kind ≤ 3) ∧ ws ≠ []) := fun h => by
  rw [h] at hhb
  unfold allG goodB at hhb
  simp only [List.all_cons, List.all_nil, Bool.and_true, Bool.and_eq_true] at hhb
  refine ⟨fun s hs => of_decide_eq_true (List.all_eq_true.1 hhb.1 s hs), fun h4 => ?_⟩
  have hk := hhb.2
  unfold kindB at hk
  rw [if_neg h4] at hk
  split at hk
  ·rename_i h23
   exact ⟨by omega, fun h9 => by rw [h9] at hk; cases hk⟩
  ·split at hk
   ·rename_i h1
    exact ⟨by omega, fun h9 => by rw [h9] at hk; cases hk⟩
   ·cases hk
 replace hgood := hid hgood
 have cOf := hid (fun W (h : Below W1.heap.size W1 W) (hn : ws.length ≤ 300) (hd : w64 d) (he : w64 e) => LOf_any kind (.slice pw N cw) ws a b c d e W hn hsz (hWs.out W h) ha hd he (hTW.out W h) (hRW.out W h))
 have cRf := hid (fun W (h : Below W1.heap.size W1 W) (hn : ws.length ≤ 300) => ROf_any kind (.slice pw N cw) ws a b c d e W hn hsz (hWs.out W h))
 have s0 := kS.out _ (Below.refl _ _)
 obtain ⟨s0, s1, s2, s3, s4⟩ := s0
 clear hhb hsl gP gS
 replace hN := hid hN
 replace hgb := hid hgb
 go_enter Tryz.func6, Tryz.ntmps6
 go_upto_region 1 with (fail)
 rw [← hW1]
 clear hW1
 try simp only [hn₀]
 go_wp2_with (fail)
 refine cG.out.mono ?_
 rintro r w2 ⟨rfl, b2⟩
 have B2 : Below W1.heap.size W1 w2 := b2
 clear s0 s1 s2 s3 s4 b2 cG
 have q0 := kP0.out _ B2
 have q1 := kP1.out _ B2
 cases gb with
 | false =>
  go_wp2_with (fail)
  refine (cK.out _ B2).mono ?_
  rintro r w9 ⟨rfl, b9⟩
  have BZ := hB0.trans ((B2.trans (b9.mono B2.size)).mono hz1)
  go_wp2_with (fail)
  go_ret
  exact ⟨rfl, BZ⟩
 | true =>
  have hg := of_decide_eq_true (show decide _ = true from hgb.out)
  replace hg := hid hg
  have gP := World.alloc_heap_new w2 (.cells #[.int .i64 kind, .slice pw N cw] 24)
  have B3 := B2.alloc B2.size (.cells #[.int .i64 kind, .slice pw N cw] 24)
  have cH1 := hid (cH.out _ B3 (.slice (some ⟨w2.heap.size, 0, none⟩) 1 1) (sl_of_block (l := [(kind, Value.slice pw N cw, ws)]) (cap := 1) gP rfl (fun _ _ => rfl) (Nat.le_refl _) (by decide)))
  clear gP cH
  go_wp2_with (fail)
  refine cH1.out.mono ?_
  rintro r w4 ⟨rfl, b4⟩
  have B4 := B3.trans (b4.mono B3.size)
  clear cH1 B3 b4 B2 q0 q1
  have q0 := kP0.out _ B4
  have q1 := kP1.out _ B4
  cases hb with
  | false =>
   go_wp2_with (fail)
   refine (cK.out _ B4).mono ?_
   rintro r w9 ⟨rfl, b9⟩
   have BZ := hB0.trans ((B4.trans (b9.mono B4.size)).mono hz1)
   go_wp2_with (fail)
   go_ret
   exact ⟨rfl, BZ⟩
  | true =>
   obtain ⟨hgw, hkk⟩ := hgood.out rfl
   clear hgood
   by_cases k4 : kind = 4
   ·subst k4
    go_wp2_with (fail)
    refine (cK.out _ B4).mono ?_
    rintro r w9 ⟨rfl, b9⟩
    have BZ := hB0.trans ((B4.trans (b9.mono B4.size)).mono hz1)
    go_wp2_with (fail)
    go_ret
    exact ⟨rfl, BZ⟩
   ·obtain ⟨hk3, hne⟩ := hkk k4
    have hk4b : (kind == 4) = false := by simpa using k4
    have hsz0 : ∀ s ∈ ws, s.size ≠ 0 := fun s hs h9 => (hgw s hs).1 (List.eq_nil_of_length_eq_zero (by rw [size_toList]; exact h9))
    clear hkk hgw
    replace hsz0 := hid hsz0
    by_cases h60 : 60 < N
    ·have h60I : (60 : Int) < (N : Int) := by omega
     go_wp2_with (fail)
     refine (cK.out _ B4).mono ?_
     rintro r w9 ⟨rfl, b9⟩
     have BZ := hB0.trans ((B4.trans (b9.mono B4.size)).mono hz1)
     go_wp2_with (fail)
     go_ret
     exact ⟨rfl, BZ⟩
    ·have h60I : ¬ (60 : Int) < (N : Int) := by omega
     have hN1 := hN.out
     have hg1 := hg.out
     have cO := hid (cOf.out _ B4 (by omega) (by constructor <;> omega) (by constructor <;> omega))
     have cR9 := hid (fun W h => cRf.out W h (by omega))
     have hends := hid (fun h6 hwi => @ends_at kind a c d e ws hk3 hsz0.out hne ⟨by omega, by omega⟩ h6 hwi)
     have hnon := hid (fun h6 => @text_none kind a c d e ws hk3 hne h6)
     have hin := hid (@ofL_in kind a c d e ws hsz)
     have hbx := hid (@items_box kind e d ws hk3 hsz0.out hne)
     have hok := hid (@items_ok kind e d ws (by constructor <;> omega) (by constructor <;> omega) hsz)
     obtain ⟨IL, hIL⟩ : ∃ y, itemsOf kind e d ws = y := ⟨_, rfl⟩
     obtain ⟨L, hL⟩ : ∃ y, ofL kind ws a c d e = y := ⟨_, rfl⟩
     rw [hIL] at cR9 hends hnon hbx hok
     rw [hL] at cO hends hnon hin
     clear hIL hL hN1 hg1 cOf cRf hsz0
     obtain ⟨s0, s1, s2, s3, s4⟩ := kS.out _ B4
     go_wp2_with (fail)
     refine cO.out.mono ?_
     rintro r w5 ⟨v5, rfl, L5, b5⟩
     have B5 := B4.trans (b5.mono B4.size)
     clear q0 q1 s0 s1 s2 s3 s4 b5 B4 cO
     have q0 := kP0.out _ B5
     have q1 := kP1.out _ B5
     obtain ⟨s0, s1, s2, s3, s4⟩ := kS.out _ B5
     obtain ⟨p5, c5, rfl, hm5⟩ := L5.shape
     unfold maxLen at hm5
     have cR := hid (cR9.out _ B5)
     go_wp2_with (fail)
     refine cR.out.mono ?_
     rintro r w6 ⟨v6, rfl, o6, b6⟩
     have B6 := B5.trans (b6.mono B5.size)
     have L6 := L5.kept (Kept.of_below b6 0)
     have S6 := sl_of_owns (enc := encIt) (fun _ _ => rfl) o6
     obtain ⟨p6, c6, rfl, -, hm6⟩ := owns_shape o6
     clear q0 q1 s0 s1 s2 s3 s4 b6 B5 L5 cR cR9 o6
     by_cases h6 : 600 < IL.length
     ·have h6I : (600 : Int) < (IL.length : Int) := by omega
      obtain rfl := hnon.out h6
      clear hin hends hnon
      go_wp2_with (fail)
      refine (cK.out _ B6).mono ?_
      rintro r w9 ⟨rfl, b9⟩
      have BZ := hB0.trans ((B6.trans (b9.mono B6.size)).mono hz1)
      go_wp2_with (fail)
      go_ret
      exact ⟨rfl, BZ⟩
     ·have h6I : ¬ (600 : Int) < (IL.length : Int) := by omega
      obtain ⟨LI, hLI⟩ : ∃ m, IL.length = m := ⟨_, rfl⟩
      rw [hLI] at h6 h6I ⊢
      replace hLI := hid hLI
      replace S6 := hid S6
      have hilne : IL ≠ [] := fun h => by have := hbx.out; rw [h] at this; simp at this
      have kI := hid (fun (k : Nat) (x : It) (hx : IL[k]? = some x) => (show ∃ bi oi, p6 = some ⟨bi, oi, none⟩ ∧ w6.cell? ⟨bi, oi + k * 6 + 1, none⟩ = some (.int .i64 x.w) from by
       obtain ⟨b8, o8, c8, e8, -, -, h8⟩ := S6.out.open hilne
       obtain ⟨h7, -, -⟩ := Value.slice.inj e8
       exact ⟨b8, o8, h7, by have := h8 k x hx 1 _ rfl; exact this⟩))
      have hfin : (∀ x ∈ IL.take LI, x.w ≤ 10000) → ∀ x ∈ IL, x.w ≤ 10000 := fun h x hx => h x (by rw [← hLI.out, List.take_length]; exact hx)
      replace hfin := hid hfin
      have hsu := hid (fun (k : Nat) (x : It) (hx : IL[k]? = some x) (hw : x.w ≤ 10000) (h : ∀ y ∈ IL.take k, y.w ≤ 10000) => (show ∀ y ∈ IL.take (k + 1), y.w ≤ 10000 from fun y hy => by
       obtain ⟨h1, h2⟩ := List.getElem?_eq_some_iff.1 hx
       rw [List.take_succ_eq_append_getElem h1] at hy
       rcases List.mem_append.1 hy with h9 | h9
       ·exact h y h9
       ·obtain rfl := List.mem_singleton.1 h9; rw [h2]; exact hw))
      have hgetI := hid (fun (k : Nat) (hk : k < LI) => (show ∃ x, IL[k]? = some x from ⟨IL[k]'(by rw [hLI.out]; exact hk), List.getElem?_eq_getElem _⟩))
      clear hnon
      go_wp2_with (fail)
      go_loopw [7] (fun iv wr => ∃ k : Nat, k ≤ LI ∧ iv = .int .i64 (k : Int) ∧ (∀ x ∈ IL.take k, x.w ≤ 10000) ∧ wr = w6) (fun iv _ => LI - (RowKit.intOf iv).toNat)
      case atStart => exact ⟨0, Nat.zero_le _, rfl, fun x h => by simp at h, rfl⟩
      case round =>
       obtain ⟨k, hk, rfl, hwk, hwe⟩ := hrel
       subst hwe
       by_cases hkl : k < LI
       ·have hkI : (k : Int) < (LI : Int) := by omega
        obtain ⟨x, hx⟩ := hgetI.out k hkl
        obtain ⟨bi, oi, rfl, hc⟩ := kI.out k x hx
        have hnx := hid (fun hw => hsu.out k x hx hw hwk)
        clear hwk
        have hzk : IntKind.i64.wrap ((k : Int) + 1) = (k : Int) + 1 := by rw [IntKind.wrap_i64]; omega
        by_cases hbig : 10000 < x.w
        ·go_wp2_with (fail)
         refine (cK.out _ B6).mono ?_
         rintro r w9 ⟨rfl, b9⟩
         have BZ := hB0.trans ((B6.trans (b9.mono B6.size)).mono hz1)
         go_wp2_with (fail)
         go_ret
         exact ⟨rfl, BZ⟩
        ·go_wp2_with (fail)
         exact ⟨⟨k + 1, by omega, by go_num, hnx.out (by omega), trivial⟩, by simp [RowKit.intOf]; omega⟩
       ·obtain rfl : k = LI := by omega
        obtain ⟨hll, hat⟩ := hends.out (by rw [hLI.out]; omega) (hfin.out hwk)
        clear hends hfin hsu hgetI kI hwk
        have S7 := S6.out
        rw [hLI.out] at S7
        obtain ⟨s0, s1, s2, s3, s4⟩ := kS.out _ B6
        have cB := Best_any a b c d e wr (by rw [hLI.out]; exact S7) hok.out
        rw [hLI.out] at cB
        have hend0 := hid (show endW tw = endW tm from rfl)
        obtain ⟨BW, hBW⟩ : ∃ y, bestS IL (cutI a 0 10000) (cutI c 0 10000) = y := ⟨_, rfl⟩
        rw [hBW] at cB hll hat
        obtain ⟨mb, hmb⟩ : ∃ y, mayS IL (cutI a 0 10000) (cutI c 0 10000) (-1) BW.br = y := ⟨_, rfl⟩
        rw [hmb] at hat
        obtain ⟨M, hM⟩ : ∃ m, L.length = m := ⟨_, rfl⟩
        rw [hM] at hll hat hm5 ⊢
        replace cB := hid cB
        replace hat := hid hat
        replace hM := hid hM
        replace hll := hid hll
        replace hBW := hid hBW
        replace hmb := hid hmb
        go_wp2_with (fail)
        refine cB.out.mono ?_
        rintro r w7 ⟨⟨v7, rfl, s7, -⟩, b7⟩
        obtain ⟨p7, c7, rfl, -⟩ := s7.shape
        have e7 := hll.out
        rw [← e7] at s7 ⊢
        clear e7 cB s0 s1 s2 s3 s4
        unfold wayV
        have B7 := B6.trans (b7.mono B6.size)
        obtain ⟨nA, hnA⟩ : ∃ n, w7.heap.size = n := ⟨_, rfl⟩
        have gA := World.alloc_heap_new w7 (.cells #[.slice none 0 0, .int .i64 0, .int .i64 0] 52)
        rw [hnA] at gA
        have hthA : (w7.alloc (.cells #[.slice none 0 0, .int .i64 0, .int .i64 0] 52)).there nA 0 (#[.slice p7 M c7, .int .i64 BW.tot, .int .i64 BW.ov] : Array Value).size := there_blk gA rfl
        have uA := (Upd.refl gA).setCells (#[.slice p7 M c7, .int .i64 BW.tot, .int .i64 BW.ov] : Array Value).toList rfl
        have gA8 := uA.here
        rw [Array.toArray_toList] at gA8
        have b78 : Below w7.heap.size w7 ((w7.alloc (.cells #[.slice none 0 0, .int .i64 0, .int .i64 0] 52)).setCells nA 0 (#[.slice p7 M c7, .int .i64 BW.tot, .int .i64 BW.ov] : Array Value).toList) := uA.below ((Below.refl _ w7).alloc (Nat.le_refl _) _) (by omega)
        clear uA gA
        go_upto_region 13 with (refine wpList_store_mid rfl 52 _ _ rfl nA 0 #[.slice p7 M c7, .int .i64 BW.tot, .int .i64 BW.ov] rfl rfl hthA (by kernel_rfl) (way_one _ _ _ _ _) ?_)
        obtain ⟨W8, hW8⟩ : ∃ W : World, W = (w7.alloc (.cells #[.slice none 0 0, .int .i64 0, .int .i64 0] 52)).setCells nA 0 (#[.slice p7 M c7, .int .i64 BW.tot, .int .i64 BW.ov] : Array Value).toList := ⟨_, rfl⟩
        rw [← hW8] at gA8 b78 ⊢
        clear hW8 hthA
        have B8 := B7.trans (b78.mono B7.size)
        have b68 := b7.trans (b78.mono b7.size)
        have s8 := (Kept.of_below b78 0).sl s7
        have S8 := (Kept.of_below b68 0).sl S7
        have n0 : W8.cell? ⟨nA, 0, none⟩ = some (.slice p7 M c7) := cell_blk (i := 0) gA8 rfl
        obtain ⟨s0, s1, s2, s3, s4⟩ := kS.out _ B8
        have cM := May_any (l := IL) (p := p6) (cap := c6) a b c d e (.slice p7 M c7) W8 (by rw [hLI.out]; exact S8) (by rw [hLI.out]; omega) hbx.out hok.out (by rw [hBW.out]; exact s8)
        rw [hLI.out, hBW.out, hmb.out] at cM
        have hMM : ((M : Int) != (M : Int)) = false := by simp
        replace cM := hid cM
        clear b7 b78 B7 gA8 s7 s8 S7 S8 hbx hok hBW hmb hll hnA
        go_wp2_with (fail)
        refine cM.out.mono ?_
        rintro r w9 ⟨rfl, b9⟩
        have B9 := B8.trans (b9.mono B8.size)
        have L9 := L6.kept (Kept.of_below (b68.trans (b9.mono b68.size)) 0)
        clear s0 s1 s2 s3 s4 n0 b9 b68 B8 L6 cM B6 S6 hMM
        go_wp2_with (fail)
        go_loopw [10] (fun iv wr => ∃ i : Nat, i ≤ M ∧ iv = .int .i64 (i : Int) ∧ Below w9.heap.size w9 wr) (fun iv _ => M - (RowKit.intOf iv).toNat)
        case atStart => exact ⟨0, Nat.zero_le _, rfl, Below.refl _ _⟩
        case round =>
         obtain ⟨i, hi, rfl, Bi⟩ := hrel
         have BW1 := B9.trans (Bi.mono B9.size)
         by_cases hiM : i < M
         ·have hiMI : (i : Int) < (M : Int) := by omega
          obtain ⟨x, hx, x1, x2, x3, x4, x5⟩ := hat.out i hiM
          have hLn : L ≠ [] := fun h => by rw [h] at hx; simp at hx
          obtain ⟨bl, ol, cl, hpe, hc⟩ := (L9.kept (Kept.of_below Bi 0)).open hLn
          obtain ⟨r0, r1, r2, r3, pp, pm, r4, r5⟩ := hc i x hx
          obtain rfl := (Value.slice.inj hpe).1
          have hpb := hin.out x (List.mem_of_getElem? hx)
          obtain ⟨PS, hPS⟩ : ∃ y, x.ps = y := ⟨_, rfl⟩
          obtain ⟨ob, hob⟩ : ∃ y, x.over = y := ⟨_, rfl⟩
          obtain ⟨lb, hlb⟩ : ∃ y, x.last = y := ⟨_, rfl⟩
          rw [x1] at r0
          rw [hlb] at r2 x5
          rw [hob] at r3 x3 x4 x5
          rw [hPS] at r4 r5 x3 x4 x5 hpb
          obtain ⟨m, hm⟩ : ∃ y, PS.length = y := ⟨_, rfl⟩
          have hslP := r5.1
          have hmm := hslP.shape
          rw [hm] at r4 hslP hmm x5
          have hm63 : m < 9223372036854775808 := by obtain ⟨_, _, -, h9⟩ := hmm; unfold maxLen at h9; omega
          have hr0 := hid (fun W (hW : Below wr.heap.size wr W) => (hW.cell (p := ⟨bl, ol + i * 5, none⟩) (cell_lt r0)).trans r0)
          have hr2 := hid (fun W (hW : Below wr.heap.size wr W) => (hW.cell (p := ⟨bl, ol + i * 5 + 2, none⟩) (cell_lt r2)).trans r2)
          have hr3 := hid (fun W (hW : Below wr.heap.size wr W) => (hW.cell (p := ⟨bl, ol + i * 5 + 3, none⟩) (cell_lt r3)).trans r3)
          have hr4 := hid (fun W (hW : Below wr.heap.size wr W) => (hW.cell (p := ⟨bl, ol + i * 5 + 4, none⟩) (cell_lt r4)).trans r4)
          have hrP := hid (fun W (hW : Below wr.heap.size wr W) => (Kept.of_below hW 0).sl hslP)
          have hzi : IntKind.i64.wrap ((i : Int) + 1) = (i : Int) + 1 := by rw [IntKind.wrap_i64]; omega
          have cW0 := Wide_any (.slice pp m pm) PS wr hslP hpb (hTW.out _ BW1)
          rw [hend0.out] at cW0
          obtain ⟨E, hE⟩ : ∃ y, endW tm PS = y := ⟨_, rfl⟩
          rw [hE] at cW0 x3 x4 x5
          have hE1 := hid x3
          have hE2 := hid x4
          have hE3 := hid x5
          replace cW0 := hid cW0
          replace hm := hid hm
          clear hc hpe r0 r1 r2 r3 r5 x1 x2 x3 x4 x5 hPS hob hlb hx hE hmm hslP
          go_wp2_with (fail)
          refine cW0.out.mono ?_
          rintro r wa ⟨rfl, bA⟩
          clear cW0 r4
          go_wp2_with (fail)
          go_loopw [12, 13] (fun av kv wr => ∃ k : Nat, 1 ≤ k ∧ (k ≤ m ∨ k = 1) ∧ av = .bool (apS kind i PS k) ∧ kv = .int .i64 (k : Int) ∧ Below wa.heap.size wa wr) (fun _ kv _ => m - (RowKit.intOf kv).toNat)
          case atStart => exact ⟨1, Nat.le_refl _, .inr rfl, by rw [apS_one], rfl, Below.refl _ _⟩
          case round =>
           obtain ⟨k, hk1, hk2, rfl, rfl, Bk⟩ := hrel
           have Bz := bA.trans (Bk.mono bA.size)
           have r4 := hr4.out _ Bz
           by_cases hkm : k < m
           ·have hkmI : (k : Int) < (m : Int) := by omega
            have hk0I : (0 : Int) ≤ (k : Int) := by omega
            have hzk : IntKind.i64.wrap ((k : Int) + 1) = (k : Int) + 1 := by rw [IntKind.wrap_i64]; omega
            have hsP := hrP.out _ Bz
            obtain ⟨bp, op, cp, hpp, -, -, hp9⟩ := hsP.open (by intro h; have := hm.out; rw [h] at this; simp at this; omega)
            obtain ⟨y, hy⟩ : ∃ y, PS[k]? = some y := ⟨PS[k]'(by rw [hm.out]; exact hkm), List.getElem?_eq_getElem _⟩
            have xk := (piece_cells (hp9 k y hy)).1
            have hga := hid (gapK_at (by omega) hy)
            have hsu := hid (apS_succ kind i PS k)
            have hsl2 : Sl wr 2 encPc (.slice pp PS.length pm) PS := by rw [hm.out]; exact hsP
            obtain ⟨sv, hsv, hsvs, p9, c9, rfl⟩ := slice_take (P := Tryz.prog) (enc := encPc) 42 47 2 (by kernel_rfl) infoPc2 (k := k) (by rw [hm.out]; omega) hsl2
            rw [hm.out] at hsv
            obtain ⟨rfl, -⟩ := Value.slice.inj hpp
            obtain ⟨X, hX⟩ : ∃ X, y.1 = X := ⟨_, rfl⟩
            rw [hX] at xk hga
            obtain ⟨Wq, hWq⟩ : ∃ W : World, W = wr := ⟨_, rfl⟩
            subst hWq
            have bd : Below Wq.heap.size Wq Wq.drew := (Below.refl _ Wq).drewN 1
            have Bk' := Bk.trans (bd.mono Bk.size)
            have Bz' := Bz.trans (bd.mono Bz.size)
            have BQ := BW1.trans (Bz'.mono BW1.size)
            have hzq : wa.heap.size ≤ Wq.drew.heap.size := Bk'.size
            have hst : (fun V => Below Wq.drew.heap.size Wq.drew V) Wq.drew := Below.refl _ _
            have kK := hid (fun V (h : Below Wq.drew.heap.size Wq.drew V) => hr0.out V (Bz'.trans (h.mono Bz'.size)))
            have kP := hid (fun V (h : Below Wq.drew.heap.size Wq.drew V) => hr4.out V (Bz'.trans (h.mono Bz'.size)))
            have kX := hid (fun V (h : Below Wq.drew.heap.size Wq.drew V) => (h.cell (p := ⟨bp, op + k * 2, none⟩) (cell_lt (show Wq.drew.cell? _ = _ from xk))).trans (show Wq.drew.cell? _ = _ from xk))
            have cWd := hid (fun V (h : Below Wq.drew.heap.size Wq.drew V) => Wide_any (.slice p9 k c9) (PS.take k) V (hsvs V (by have h8 := hrP.out V (Bz'.trans (h.mono Bz'.size)); rwa [← hm.out] at h8)) (hpb.take k) (hTW.out _ (BQ.trans (h.mono BQ.size))))
            rw [hend0.out] at cWd
            obtain ⟨E2, hE2'⟩ : ∃ y, endW tm (PS.take k) = y := ⟨_, rfl⟩
            rw [hE2'] at cWd hga
            obtain ⟨ap, hap0⟩ : ∃ b, apS kind i PS k = b := ⟨_, rfl⟩
            rw [hap0] at hsu ⊢
            replace hsv := hid hsv
            clear hX hE2' hap0 hsvs hp9 hpp hsl2 hsP hy xk
            replace Bk := Bk'
            clear Bk'
            go_upto_region 24 with (fail)
            clear r4 Bz bd
            cases ap with
            | true =>
             have hap := hid (show apS kind i PS (k + 1) = true by rw [hsu.out, Bool.true_or])
             clear hsu hga
             refine wp_region_held_drew (S := (fun V => Below Wq.drew.heap.size Wq.drew V)) (by kernel_rfl) hst (fun hHeld => ?_)
             generalize Wq.drew = W5 at *
             refine tkH 0 (some 99) ?_ rfl (Or.inl ⟨by rfl, ?_⟩) ?_; rotate_left
             ·intro w hSw; (try dsimp only at hSw); go_simp <;> with_reducible rfl
             try simp only [Act.put, aS, aZ, aC]
             refine tkH 1 (some 100) ?_ rfl (Or.inl ⟨by rfl, ?_⟩) ?_; rotate_left
             ·intro w hSw; (try dsimp only at hSw); go_simp <;> with_reducible rfl
             try simp only [Act.put, aS, aZ, aC]
             refine tkH 2 (some 101) _ rfl (Or.inr ⟨by rfl, rfl⟩) ?_
             try simp only [Act.put, aS, aZ, aC]
             refine tkH 3 (some 102) _ rfl (Or.inr ⟨by rfl, rfl⟩) ?_
             try simp only [Act.put, aS, aZ, aC]
             refine tkH 4 (some 103) _ rfl (Or.inr ⟨by rfl, rfl⟩) ?_
             try simp only [Act.put, aS, aZ, aC]
             refine tkH 5 (some 104) _ rfl (Or.inr ⟨by rfl, rfl⟩) ?_
             try simp only [Act.put, aS, aZ, aC]
             refine tkH 6 (some 105) _ rfl (Or.inr ⟨by rfl, rfl⟩) ?_
             try simp only [Act.put, aS, aZ, aC]
             refine tkH 7 (some 106) _ rfl (Or.inr ⟨by rfl, rfl⟩) ?_
             try simp only [Act.put, aS, aZ, aC]
             refine tkH 8 (some 107) _ rfl (Or.inr ⟨by rfl, rfl⟩) ?_
             try simp only [Act.put, aS, aZ, aC]
             refine tkH 9 (some 108) _ rfl (Or.inr ⟨by rfl, rfl⟩) ?_
             try simp only [Act.put, aS, aZ, aC]
             refine tkH 10 (some 109) _ rfl (Or.inr ⟨by rfl, rfl⟩) ?_
             try simp only [Act.put, aS, aZ, aC]
             refine tkH 11 (some 110) _ rfl (Or.inr ⟨by rfl, rfl⟩) ?_
             try simp only [Act.put, aS, aZ, aC]
             refine tkH 12 (some 111) _ rfl (Or.inr ⟨by rfl, rfl⟩) ?_
             try simp only [Act.put, aS, aZ, aC]
             refine tkH 13 (some 112) _ rfl (Or.inr ⟨by rfl, rfl⟩) ?_
             try simp only [Act.put, aS, aZ, aC]
             refine tkH 14 (some 113) _ rfl (Or.inr ⟨by rfl, rfl⟩) ?_
             try simp only [Act.put, aS, aZ, aC]
             refine tkH 15 (some 114) _ rfl (Or.inr ⟨by rfl, rfl⟩) ?_
             try simp only [Act.put, aS, aZ, aC]
             refine tkH 16 (some 115) _ rfl (Or.inr ⟨by rfl, rfl⟩) ?_
             try simp only [Act.put, aS, aZ, aC]
             refine tkH 17 (some 116) _ rfl (Or.inr ⟨by rfl, rfl⟩) ?_
             try simp only [Act.put, aS, aZ, aC]
             refine tkH 18 (some 117) _ rfl (Or.inr ⟨by rfl, rfl⟩) ?_
             try simp only [Act.put, aS, aZ, aC]
             refine tkH 19 (some 118) _ rfl (Or.inr ⟨by rfl, rfl⟩) ?_
             try simp only [Act.put, aS, aZ, aC]
             refine tkH 20 (some 119) _ rfl (Or.inr ⟨by rfl, rfl⟩) ?_
             try simp only [Act.put, aS, aZ, aC]
             refine tkH 21 (some 120) _ rfl (Or.inr ⟨by rfl, rfl⟩) ?_
             try simp only [Act.put, aS, aZ, aC]
             refine tkH 22 (some 121) _ rfl (Or.inr ⟨by rfl, rfl⟩) ?_
             try simp only [Act.put, aS, aZ, aC]
             refine tkH 23 (some 122) _ rfl (Or.inr ⟨by rfl, rfl⟩) ?_
             try simp only [Act.put, aS, aZ, aC]
             refine tkH 24 (some 123) _ rfl (Or.inr ⟨by rfl, rfl⟩) ?_
             try simp only [Act.put, aS, aZ, aC]
             refine tkH 25 (some 124) _ rfl (Or.inr ⟨by rfl, rfl⟩) ?_
             try simp only [Act.put, aS, aZ, aC]
             refine tkH 26 (some 125) _ rfl (Or.inr ⟨by rfl, rfl⟩) ?_
             try simp only [Act.put, aS, aZ, aC]
             refine tkH 27 (some 126) _ rfl (Or.inr ⟨by rfl, rfl⟩) ?_
             try simp only [Act.put, aS, aZ, aC]
             refine tkH 28 (some 127) _ rfl (Or.inr ⟨by rfl, rfl⟩) ?_
             try simp only [Act.put, aS, aZ, aC]
             refine tkH 29 (some 128) _ rfl (Or.inr ⟨by rfl, rfl⟩) ?_
             try simp only [Act.put, aS, aZ, aC]
             refine tkH 30 (some 129) _ rfl (Or.inr ⟨by rfl, rfl⟩) ?_
             try simp only [Act.put, aS, aZ, aC]
             refine tkH 31 (some 130) _ rfl (Or.inr ⟨by rfl, rfl⟩) ?_
             try simp only [Act.put, aS, aZ, aC]
             refine tkH 32 (some 131) _ rfl (Or.inr ⟨by rfl, rfl⟩) ?_
             try simp only [Act.put, aS, aZ, aC]
             refine tkH 33 (some 132) _ rfl (Or.inr ⟨by rfl, rfl⟩) ?_
             try simp only [Act.put, aS, aZ, aC]
             refine tkH 34 (some 133) _ rfl (Or.inr ⟨by rfl, rfl⟩) ?_
             try simp only [Act.put, aS, aZ, aC]
             refine tkH 35 (some 134) _ rfl (Or.inr ⟨by rfl, rfl⟩) ?_
             try simp only [Act.put, aS, aZ, aC]
             refine tkH 36 (some 135) ?_ rfl (Or.inl ⟨by rfl, ?_⟩) ?_; rotate_left
             ·intro w hSw; (try dsimp only at hSw); go_simp <;> with_reducible rfl
             try simp only [Act.put, aS, aZ, aC]
             refine tkH 37 (some 12) ?_ rfl (Or.inl ⟨by rfl, ?_⟩) ?_; rotate_left
             ·intro w hSw; (try dsimp only at hSw); go_simp <;> with_reducible rfl
             try simp only [Act.put, aS, aZ, aC]
             refine wpAnyH_done (by kernel_rfl) ?_ _
             have Bd := Bk.trans (hHeld.mono hzq)
             clear hHeld
             go_wp2_with (fail)
             exact ⟨⟨k + 1, by omega, by omega, by rw [hap.out], by go_num, Bd⟩, by simp [RowKit.intOf]; omega⟩
            | false =>
             by_cases k1 : 1 < k
             ·have k1I : (1 : Int) < (k : Int) := by omega
              have hap := hid (show apS kind i PS (k + 1) = (E2 != X) by rw [hsu.out, decide_eq_true hk1, Bool.true_and, hga.out, Bool.false_or]; rw [decide_eq_true k1]; simp)
              clear hsu hga
              refine wp_region_held_drew (S := (fun V => Below Wq.drew.heap.size Wq.drew V)) (by kernel_rfl) hst (fun hHeld => ?_)
              generalize Wq.drew = W5 at *
              refine tkH 0 (some 99) ?_ rfl (Or.inl ⟨by rfl, ?_⟩) ?_; rotate_left
              ·intro w hSw; (try dsimp only at hSw); go_simp <;> with_reducible rfl
              try simp only [Act.put, aS, aZ, aC]
              refine tkH 1 (some 100) ?_ rfl (Or.inl ⟨by rfl, ?_⟩) ?_; rotate_left
              ·intro w hSw; (try dsimp only at hSw); go_simp <;> with_reducible rfl
              try simp only [Act.put, aS, aZ, aC]
              refine tkH 2 (some 101) ?_ rfl (Or.inl ⟨by rfl, ?_⟩) ?_; rotate_left
              ·intro w hSw; (try dsimp only at hSw); go_simp <;> with_reducible rfl
              try simp only [Act.put, aS, aZ, aC]
              refine tkH 3 (some 102) ?_ rfl (Or.inl ⟨by rfl, ?_⟩) ?_; rotate_left
              ·intro w hSw; (try dsimp only at hSw); go_simp <;> with_reducible rfl
              try simp only [Act.put, aS, aZ, aC]
              refine tkH 4 (some 103) ?_ rfl (Or.inl ⟨by rfl, ?_⟩) ?_; rotate_left
              ·intro w hSw; (try dsimp only at hSw); go_simp <;> with_reducible rfl
              try simp only [Act.put, aS, aZ, aC]
              refine tkH 5 (some 104) _ rfl (Or.inr ⟨by rfl, rfl⟩) ?_
              try simp only [Act.put, aS, aZ, aC]
              refine tkH 6 (some 105) _ rfl (Or.inr ⟨by rfl, rfl⟩) ?_
              try simp only [Act.put, aS, aZ, aC]
              refine tkH 7 (some 106) _ rfl (Or.inr ⟨by rfl, rfl⟩) ?_
              try simp only [Act.put, aS, aZ, aC]
              refine tkH 8 (some 107) _ rfl (Or.inr ⟨by rfl, rfl⟩) ?_
              try simp only [Act.put, aS, aZ, aC]
              refine tkH 9 (some 108) _ rfl (Or.inr ⟨by rfl, rfl⟩) ?_
              try simp only [Act.put, aS, aZ, aC]
              refine tkH 10 (some 109) _ rfl (Or.inr ⟨by rfl, rfl⟩) ?_
              try simp only [Act.put, aS, aZ, aC]
              refine tkH 11 (some 110) ?_ rfl (Or.inl ⟨by rfl, ?_⟩) ?_; rotate_left
              ·intro w hSw; (try dsimp only at hSw); go_simp <;> with_reducible rfl
              try simp only [Act.put, aS, aZ, aC]
              refine tkH 12 (some 111) ?_ rfl (Or.inl ⟨by rfl, ?_⟩) ?_; rotate_left
              ·intro w hSw; (try dsimp only at hSw); go_simp <;> with_reducible rfl
              try simp only [Act.put, aS, aZ, aC]
              refine tkH 13 (some 112) _ rfl (Or.inr ⟨by rfl, rfl⟩) ?_
              try simp only [Act.put, aS, aZ, aC]
              refine tkH 14 (some 113) _ rfl (Or.inr ⟨by rfl, rfl⟩) ?_
              try simp only [Act.put, aS, aZ, aC]
              refine tkH 15 (some 114) ?_ rfl (Or.inl ⟨by rfl, ?_⟩) ?_; rotate_left
              ·intro w hSw; (try dsimp only at hSw); go_simp <;> with_reducible rfl
              try simp only [Act.put, aS, aZ, aC]
              refine tkH 16 (some 115) ?_ rfl (Or.inl ⟨by rfl, ?_⟩) ?_; rotate_left
              ·intro w hSw; (try dsimp only at hSw); go_simp <;> with_reducible rfl
              try simp only [Act.put, aS, aZ, aC]
              refine tkH 17 (some 116) ?_ rfl (Or.inl ⟨by rfl, ?_⟩) ?_; rotate_left
              ·intro w hSw; (try dsimp only at hSw); go_simp <;> with_reducible rfl
              try simp only [Act.put, aS, aZ, aC]
              refine tkH 18 (some 117) ?_ rfl (Or.inl ⟨by rfl, ?_⟩) ?_; rotate_left
              ·intro w hSw; (try dsimp only at hSw); go_simp <;> with_reducible rfl
              try simp only [Act.put, aS, aZ, aC]
              refine tkH 19 (some 118) ?_ rfl (Or.inl ⟨by rfl, ?_⟩) ?_; rotate_left
              ·intro w hSw; (try dsimp only at hSw); go_simp <;> with_reducible rfl
              try simp only [Act.put, aS, aZ, aC]
              refine tkH 20 (some 119) ?_ rfl (Or.inl ⟨by rfl, ?_⟩) ?_; rotate_left
              ·intro w hSw; (try dsimp only at hSw); go_simp <;> with_reducible rfl
              try simp only [Act.put, aS, aZ, aC]
              refine tkH 21 (some 120) ?_ rfl (Or.inl ⟨by rfl, ?_⟩) ?_; rotate_left
              ·intro w hSw; (try dsimp only at hSw); have h9 := kP.out _ hSw; go_simp <;> with_reducible rfl
              try simp only [Act.put, aS, aZ, aC]
              refine tkH 22 (some 121) ?_ rfl (Or.inl ⟨by rfl, ?_⟩) ?_; rotate_left
              ·intro w hSw; (try dsimp only at hSw); go_simp <;> with_reducible rfl
              try simp only [Act.put, aS, aZ, aC]
              refine tkH 23 (some 122) _ rfl (yieldsIf_slice (by rfl) 42 (.tmp 120) none (some (.tmp 121)) rfl (.slice p9 k c9) (hsv.out)) ?_
              try simp only [Act.put, aS, aZ, aC]
              refine tkH 25 (some 124) ?_ rfl (Or.inl ⟨by rfl, ?_⟩) ?_; rotate_left
              ·intro w hSw; (try dsimp only at hSw); go_simp <;> with_reducible rfl
              try simp only [Act.put, aS, aZ, aC]
              refine tkH 26 (some 125) ?_ rfl (Or.inl ⟨by rfl, ?_⟩) ?_; rotate_left
              ·intro w hSw; (try dsimp only at hSw); go_simp <;> with_reducible rfl
              try simp only [Act.put, aS, aZ, aC]
              refine tkH 27 (some 126) ?_ rfl (Or.inl ⟨by rfl, ?_⟩) ?_; rotate_left
              ·intro w hSw; (try dsimp only at hSw); go_simp <;> with_reducible rfl
              try simp only [Act.put, aS, aZ, aC]
              refine tkH 28 (some 127) ?_ rfl (Or.inl ⟨by rfl, ?_⟩) ?_; rotate_left
              ·intro w hSw; (try dsimp only at hSw); go_simp <;> with_reducible rfl
              try simp only [Act.put, aS, aZ, aC]
              refine tkH 29 (some 128) ?_ rfl (Or.inl ⟨by rfl, ?_⟩) ?_; rotate_left
              ·intro w hSw; (try dsimp only at hSw); have h9 := kP.out _ hSw; go_simp <;> with_reducible rfl
              try simp only [Act.put, aS, aZ, aC]
              refine tkH 30 (some 129) ?_ rfl (Or.inl ⟨by rfl, ?_⟩) ?_; rotate_left
              ·intro w hSw; (try dsimp only at hSw); go_simp <;> with_reducible rfl
              try simp only [Act.put, aS, aZ, aC]
              refine tkH 31 (some 130) ?_ rfl (Or.inl ⟨by rfl, ?_⟩) ?_; rotate_left
              ·intro w hSw; (try dsimp only at hSw); go_simp <;> with_reducible rfl
              try simp only [Act.put, aS, aZ, aC]
              refine tkH 32 (some 131) ?_ rfl (Or.inl ⟨by rfl, ?_⟩) ?_; rotate_left
              ·intro w hSw; (try dsimp only at hSw); go_simp <;> with_reducible rfl
              try simp only [Act.put, aS, aZ, aC]
              refine tkH 33 (some 132) ?_ rfl (Or.inl ⟨by rfl, ?_⟩) ?_; rotate_left
              ·intro w hSw; (try dsimp only at hSw); have h9 := kX.out _ hSw; go_simp <;> with_reducible rfl
              try simp only [Act.put, aS, aZ, aC]
              refine wpAnyH_ready (rs := [24]) (by kernel_rfl) (by simp) ?_
              refine AllReadyH.cons (o := ⟨some 123, _, _, _, _, _⟩) rfl (fun K hK => ?_) AllReadyH.nil
              go_simp
              refine (cWd.out _ hHeld).mono ?_
              rintro r w7 ⟨rfl, b7⟩
              have b8 := hHeld.trans (b7.mono hHeld.size)
              clear hHeld b7
              refine hK.out _ _ (b8) (fun hHeld => ?_)
              clear hK K
              try simp only [Act.put, aS, aZ, aC]
              refine tkH 34 (some 133) ?_ rfl (Or.inl ⟨by rfl, ?_⟩) ?_; rotate_left
              ·intro w hSw; (try dsimp only at hSw); go_simp <;> with_reducible rfl
              try simp only [Act.put, aS, aZ, aC]
              refine tkH 35 (some 134) ?_ rfl (Or.inl ⟨by rfl, ?_⟩) ?_; rotate_left
              ·intro w hSw; (try dsimp only at hSw); go_simp <;> with_reducible rfl
              try simp only [Act.put, aS, aZ, aC]
              refine tkH 36 (some 135) ?_ rfl (Or.inl ⟨by rfl, ?_⟩) ?_; rotate_left
              ·intro w hSw; (try dsimp only at hSw); go_simp <;> with_reducible rfl
              try simp only [Act.put, aS, aZ, aC]
              refine tkH 37 (some 12) ?_ rfl (Or.inl ⟨by rfl, ?_⟩) ?_; rotate_left
              ·intro w hSw; (try dsimp only at hSw); go_simp <;> with_reducible rfl
              try simp only [Act.put, aS, aZ, aC]
              refine wpAnyH_done (by kernel_rfl) ?_ _
              have Bd := Bk.trans (hHeld.mono hzq)
              clear hHeld
              go_wp2_with (fail)
              exact ⟨⟨k + 1, by omega, by omega, by rw [hap.out], by go_num, Bd⟩, by simp [RowKit.intOf]; omega⟩
             ·have k1I : ¬ (1 : Int) < (k : Int) := by omega
              by_cases k3 : kind = 3
              ·subst k3
               have hk3n : ((3 : Int) != 3) = false := by decide
               by_cases i0 : 0 < i
               ·have i0I : (0 : Int) < (i : Int) := by omega
                have hap := hid (show apS 3 i PS (k + 1) = (E2 != X) by rw [hsu.out, decide_eq_true hk1, Bool.true_and, hga.out, Bool.false_or]; rw [decide_eq_true i0]; simp)
                clear hsu hga
                refine wp_region_held_drew (S := (fun V => Below Wq.drew.heap.size Wq.drew V)) (by kernel_rfl) hst (fun hHeld => ?_)
                generalize Wq.drew = W5 at *
                refine tkH 0 (some 99) ?_ rfl (Or.inl ⟨by rfl, ?_⟩) ?_; rotate_left
                ·intro w hSw; (try dsimp only at hSw); go_simp <;> with_reducible rfl
                try simp only [Act.put, aS, aZ, aC]
                refine tkH 1 (some 100) ?_ rfl (Or.inl ⟨by rfl, ?_⟩) ?_; rotate_left
                ·intro w hSw; (try dsimp only at hSw); go_simp <;> with_reducible rfl
                try simp only [Act.put, aS, aZ, aC]
                refine tkH 2 (some 101) ?_ rfl (Or.inl ⟨by rfl, ?_⟩) ?_; rotate_left
                ·intro w hSw; (try dsimp only at hSw); go_simp <;> with_reducible rfl
                try simp only [Act.put, aS, aZ, aC]
                refine tkH 3 (some 102) ?_ rfl (Or.inl ⟨by rfl, ?_⟩) ?_; rotate_left
                ·intro w hSw; (try dsimp only at hSw); go_simp <;> with_reducible rfl
                try simp only [Act.put, aS, aZ, aC]
                refine tkH 4 (some 103) ?_ rfl (Or.inl ⟨by rfl, ?_⟩) ?_; rotate_left
                ·intro w hSw; (try dsimp only at hSw); go_simp <;> with_reducible rfl
                try simp only [Act.put, aS, aZ, aC]
                refine tkH 5 (some 104) ?_ rfl (Or.inl ⟨by rfl, ?_⟩) ?_; rotate_left
                ·intro w hSw; (try dsimp only at hSw); go_simp <;> with_reducible rfl
                try simp only [Act.put, aS, aZ, aC]
                refine tkH 6 (some 105) ?_ rfl (Or.inl ⟨by rfl, ?_⟩) ?_; rotate_left
                ·intro w hSw; (try dsimp only at hSw); go_simp <;> with_reducible rfl
                try simp only [Act.put, aS, aZ, aC]
                refine tkH 7 (some 106) ?_ rfl (Or.inl ⟨by rfl, ?_⟩) ?_; rotate_left
                ·intro w hSw; (try dsimp only at hSw); go_simp <;> with_reducible rfl
                try simp only [Act.put, aS, aZ, aC]
                refine tkH 8 (some 107) ?_ rfl (Or.inl ⟨by rfl, ?_⟩) ?_; rotate_left
                ·intro w hSw; (try dsimp only at hSw); go_simp <;> with_reducible rfl
                try simp only [Act.put, aS, aZ, aC]
                refine tkH 9 (some 108) ?_ rfl (Or.inl ⟨by rfl, ?_⟩) ?_; rotate_left
                ·intro w hSw; (try dsimp only at hSw); have h9 := kK.out _ hSw; go_simp <;> with_reducible rfl
                try simp only [Act.put, aS, aZ, aC]
                refine tkH 10 (some 109) ?_ rfl (Or.inl ⟨by rfl, ?_⟩) ?_; rotate_left
                ·intro w hSw; (try dsimp only at hSw); go_simp <;> with_reducible rfl
                try simp only [Act.put, aS, aZ, aC]
                refine tkH 11 (some 110) ?_ rfl (Or.inl ⟨by rfl, ?_⟩) ?_; rotate_left
                ·intro w hSw; (try dsimp only at hSw); go_simp <;> with_reducible rfl
                try simp only [Act.put, aS, aZ, aC]
                refine tkH 12 (some 111) ?_ rfl (Or.inl ⟨by rfl, ?_⟩) ?_; rotate_left
                ·intro w hSw; (try dsimp only at hSw); go_simp <;> with_reducible rfl
                try simp only [Act.put, aS, aZ, aC]
                refine tkH 13 (some 112) ?_ rfl (Or.inl ⟨by rfl, ?_⟩) ?_; rotate_left
                ·intro w hSw; (try dsimp only at hSw); go_simp <;> with_reducible rfl
                try simp only [Act.put, aS, aZ, aC]
                refine tkH 14 (some 113) ?_ rfl (Or.inl ⟨by rfl, ?_⟩) ?_; rotate_left
                ·intro w hSw; (try dsimp only at hSw); go_simp <;> with_reducible rfl
                try simp only [Act.put, aS, aZ, aC]
                refine tkH 15 (some 114) ?_ rfl (Or.inl ⟨by rfl, ?_⟩) ?_; rotate_left
                ·intro w hSw; (try dsimp only at hSw); go_simp <;> with_reducible rfl
                try simp only [Act.put, aS, aZ, aC]
                refine tkH 16 (some 115) ?_ rfl (Or.inl ⟨by rfl, ?_⟩) ?_; rotate_left
                ·intro w hSw; (try dsimp only at hSw); go_simp <;> with_reducible rfl
                try simp only [Act.put, aS, aZ, aC]
                refine tkH 17 (some 116) ?_ rfl (Or.inl ⟨by rfl, ?_⟩) ?_; rotate_left
                ·intro w hSw; (try dsimp only at hSw); go_simp <;> with_reducible rfl
                try simp only [Act.put, aS, aZ, aC]
                refine tkH 18 (some 117) ?_ rfl (Or.inl ⟨by rfl, ?_⟩) ?_; rotate_left
                ·intro w hSw; (try dsimp only at hSw); go_simp <;> with_reducible rfl
                try simp only [Act.put, aS, aZ, aC]
                refine tkH 19 (some 118) ?_ rfl (Or.inl ⟨by rfl, ?_⟩) ?_; rotate_left
                ·intro w hSw; (try dsimp only at hSw); go_simp <;> with_reducible rfl
                try simp only [Act.put, aS, aZ, aC]
                refine tkH 20 (some 119) ?_ rfl (Or.inl ⟨by rfl, ?_⟩) ?_; rotate_left
                ·intro w hSw; (try dsimp only at hSw); go_simp <;> with_reducible rfl
                try simp only [Act.put, aS, aZ, aC]
                refine tkH 21 (some 120) ?_ rfl (Or.inl ⟨by rfl, ?_⟩) ?_; rotate_left
                ·intro w hSw; (try dsimp only at hSw); have h9 := kP.out _ hSw; go_simp <;> with_reducible rfl
                try simp only [Act.put, aS, aZ, aC]
                refine tkH 22 (some 121) ?_ rfl (Or.inl ⟨by rfl, ?_⟩) ?_; rotate_left
                ·intro w hSw; (try dsimp only at hSw); go_simp <;> with_reducible rfl
                try simp only [Act.put, aS, aZ, aC]
                refine tkH 23 (some 122) _ rfl (yieldsIf_slice (by rfl) 42 (.tmp 120) none (some (.tmp 121)) rfl (.slice p9 k c9) (hsv.out)) ?_
                try simp only [Act.put, aS, aZ, aC]
                refine tkH 25 (some 124) ?_ rfl (Or.inl ⟨by rfl, ?_⟩) ?_; rotate_left
                ·intro w hSw; (try dsimp only at hSw); go_simp <;> with_reducible rfl
                try simp only [Act.put, aS, aZ, aC]
                refine tkH 26 (some 125) ?_ rfl (Or.inl ⟨by rfl, ?_⟩) ?_; rotate_left
                ·intro w hSw; (try dsimp only at hSw); go_simp <;> with_reducible rfl
                try simp only [Act.put, aS, aZ, aC]
                refine tkH 27 (some 126) ?_ rfl (Or.inl ⟨by rfl, ?_⟩) ?_; rotate_left
                ·intro w hSw; (try dsimp only at hSw); go_simp <;> with_reducible rfl
                try simp only [Act.put, aS, aZ, aC]
                refine tkH 28 (some 127) ?_ rfl (Or.inl ⟨by rfl, ?_⟩) ?_; rotate_left
                ·intro w hSw; (try dsimp only at hSw); go_simp <;> with_reducible rfl
                try simp only [Act.put, aS, aZ, aC]
                refine tkH 29 (some 128) ?_ rfl (Or.inl ⟨by rfl, ?_⟩) ?_; rotate_left
                ·intro w hSw; (try dsimp only at hSw); have h9 := kP.out _ hSw; go_simp <;> with_reducible rfl
                try simp only [Act.put, aS, aZ, aC]
                refine tkH 30 (some 129) ?_ rfl (Or.inl ⟨by rfl, ?_⟩) ?_; rotate_left
                ·intro w hSw; (try dsimp only at hSw); go_simp <;> with_reducible rfl
                try simp only [Act.put, aS, aZ, aC]
                refine tkH 31 (some 130) ?_ rfl (Or.inl ⟨by rfl, ?_⟩) ?_; rotate_left
                ·intro w hSw; (try dsimp only at hSw); go_simp <;> with_reducible rfl
                try simp only [Act.put, aS, aZ, aC]
                refine tkH 32 (some 131) ?_ rfl (Or.inl ⟨by rfl, ?_⟩) ?_; rotate_left
                ·intro w hSw; (try dsimp only at hSw); go_simp <;> with_reducible rfl
                try simp only [Act.put, aS, aZ, aC]
                refine tkH 33 (some 132) ?_ rfl (Or.inl ⟨by rfl, ?_⟩) ?_; rotate_left
                ·intro w hSw; (try dsimp only at hSw); have h9 := kX.out _ hSw; go_simp <;> with_reducible rfl
                try simp only [Act.put, aS, aZ, aC]
                refine wpAnyH_ready (rs := [24]) (by kernel_rfl) (by simp) ?_
                refine AllReadyH.cons (o := ⟨some 123, _, _, _, _, _⟩) rfl (fun K hK => ?_) AllReadyH.nil
                go_simp
                refine (cWd.out _ hHeld).mono ?_
                rintro r w7 ⟨rfl, b7⟩
                have b8 := hHeld.trans (b7.mono hHeld.size)
                clear hHeld b7
                refine hK.out _ _ (b8) (fun hHeld => ?_)
                clear hK K
                try simp only [Act.put, aS, aZ, aC]
                refine tkH 34 (some 133) ?_ rfl (Or.inl ⟨by rfl, ?_⟩) ?_; rotate_left
                ·intro w hSw; (try dsimp only at hSw); go_simp <;> with_reducible rfl
                try simp only [Act.put, aS, aZ, aC]
                refine tkH 35 (some 134) ?_ rfl (Or.inl ⟨by rfl, ?_⟩) ?_; rotate_left
                ·intro w hSw; (try dsimp only at hSw); go_simp <;> with_reducible rfl
                try simp only [Act.put, aS, aZ, aC]
                refine tkH 36 (some 135) ?_ rfl (Or.inl ⟨by rfl, ?_⟩) ?_; rotate_left
                ·intro w hSw; (try dsimp only at hSw); go_simp <;> with_reducible rfl
                try simp only [Act.put, aS, aZ, aC]
                refine tkH 37 (some 12) ?_ rfl (Or.inl ⟨by rfl, ?_⟩) ?_; rotate_left
                ·intro w hSw; (try dsimp only at hSw); go_simp <;> with_reducible rfl
                try simp only [Act.put, aS, aZ, aC]
                refine wpAnyH_done (by kernel_rfl) ?_ _
                have Bd := Bk.trans (hHeld.mono hzq)
                clear hHeld
                go_wp2_with (fail)
                exact ⟨⟨k + 1, by omega, by omega, by rw [hap.out], by go_num, Bd⟩, by simp [RowKit.intOf]; omega⟩
               ·have i0I : ¬ (0 : Int) < (i : Int) := by omega
                have hap := hid (show apS 3 i PS (k + 1) = false by rw [hsu.out]; simp [k1, i0])
                clear hsu hga
                refine wp_region_held_drew (S := (fun V => Below Wq.drew.heap.size Wq.drew V)) (by kernel_rfl) hst (fun hHeld => ?_)
                generalize Wq.drew = W5 at *
                refine tkH 0 (some 99) ?_ rfl (Or.inl ⟨by rfl, ?_⟩) ?_; rotate_left
                ·intro w hSw; (try dsimp only at hSw); go_simp <;> with_reducible rfl
                try simp only [Act.put, aS, aZ, aC]
                refine tkH 1 (some 100) ?_ rfl (Or.inl ⟨by rfl, ?_⟩) ?_; rotate_left
                ·intro w hSw; (try dsimp only at hSw); go_simp <;> with_reducible rfl
                try simp only [Act.put, aS, aZ, aC]
                refine tkH 2 (some 101) ?_ rfl (Or.inl ⟨by rfl, ?_⟩) ?_; rotate_left
                ·intro w hSw; (try dsimp only at hSw); go_simp <;> with_reducible rfl
                try simp only [Act.put, aS, aZ, aC]
                refine tkH 3 (some 102) ?_ rfl (Or.inl ⟨by rfl, ?_⟩) ?_; rotate_left
                ·intro w hSw; (try dsimp only at hSw); go_simp <;> with_reducible rfl
                try simp only [Act.put, aS, aZ, aC]
                refine tkH 4 (some 103) ?_ rfl (Or.inl ⟨by rfl, ?_⟩) ?_; rotate_left
                ·intro w hSw; (try dsimp only at hSw); go_simp <;> with_reducible rfl
                try simp only [Act.put, aS, aZ, aC]
                refine tkH 5 (some 104) ?_ rfl (Or.inl ⟨by rfl, ?_⟩) ?_; rotate_left
                ·intro w hSw; (try dsimp only at hSw); go_simp <;> with_reducible rfl
                try simp only [Act.put, aS, aZ, aC]
                refine tkH 6 (some 105) ?_ rfl (Or.inl ⟨by rfl, ?_⟩) ?_; rotate_left
                ·intro w hSw; (try dsimp only at hSw); go_simp <;> with_reducible rfl
                try simp only [Act.put, aS, aZ, aC]
                refine tkH 7 (some 106) ?_ rfl (Or.inl ⟨by rfl, ?_⟩) ?_; rotate_left
                ·intro w hSw; (try dsimp only at hSw); go_simp <;> with_reducible rfl
                try simp only [Act.put, aS, aZ, aC]
                refine tkH 8 (some 107) ?_ rfl (Or.inl ⟨by rfl, ?_⟩) ?_; rotate_left
                ·intro w hSw; (try dsimp only at hSw); go_simp <;> with_reducible rfl
                try simp only [Act.put, aS, aZ, aC]
                refine tkH 9 (some 108) ?_ rfl (Or.inl ⟨by rfl, ?_⟩) ?_; rotate_left
                ·intro w hSw; (try dsimp only at hSw); have h9 := kK.out _ hSw; go_simp <;> with_reducible rfl
                try simp only [Act.put, aS, aZ, aC]
                refine tkH 10 (some 109) ?_ rfl (Or.inl ⟨by rfl, ?_⟩) ?_; rotate_left
                ·intro w hSw; (try dsimp only at hSw); go_simp <;> with_reducible rfl
                try simp only [Act.put, aS, aZ, aC]
                refine tkH 11 (some 110) ?_ rfl (Or.inl ⟨by rfl, ?_⟩) ?_; rotate_left
                ·intro w hSw; (try dsimp only at hSw); go_simp <;> with_reducible rfl
                try simp only [Act.put, aS, aZ, aC]
                refine tkH 12 (some 111) ?_ rfl (Or.inl ⟨by rfl, ?_⟩) ?_; rotate_left
                ·intro w hSw; (try dsimp only at hSw); go_simp <;> with_reducible rfl
                try simp only [Act.put, aS, aZ, aC]
                refine tkH 13 (some 112) ?_ rfl (Or.inl ⟨by rfl, ?_⟩) ?_; rotate_left
                ·intro w hSw; (try dsimp only at hSw); go_simp <;> with_reducible rfl
                try simp only [Act.put, aS, aZ, aC]
                refine tkH 14 (some 113) ?_ rfl (Or.inl ⟨by rfl, ?_⟩) ?_; rotate_left
                ·intro w hSw; (try dsimp only at hSw); go_simp <;> with_reducible rfl
                try simp only [Act.put, aS, aZ, aC]
                refine tkH 15 (some 114) ?_ rfl (Or.inl ⟨by rfl, ?_⟩) ?_; rotate_left
                ·intro w hSw; (try dsimp only at hSw); go_simp <;> with_reducible rfl
                try simp only [Act.put, aS, aZ, aC]
                refine tkH 16 (some 115) ?_ rfl (Or.inl ⟨by rfl, ?_⟩) ?_; rotate_left
                ·intro w hSw; (try dsimp only at hSw); go_simp <;> with_reducible rfl
                try simp only [Act.put, aS, aZ, aC]
                refine tkH 17 (some 116) _ rfl (Or.inr ⟨by rfl, rfl⟩) ?_
                try simp only [Act.put, aS, aZ, aC]
                refine tkH 18 (some 117) _ rfl (Or.inr ⟨by rfl, rfl⟩) ?_
                try simp only [Act.put, aS, aZ, aC]
                refine tkH 19 (some 118) _ rfl (Or.inr ⟨by rfl, rfl⟩) ?_
                try simp only [Act.put, aS, aZ, aC]
                refine tkH 20 (some 119) _ rfl (Or.inr ⟨by rfl, rfl⟩) ?_
                try simp only [Act.put, aS, aZ, aC]
                refine tkH 21 (some 120) _ rfl (Or.inr ⟨by rfl, rfl⟩) ?_
                try simp only [Act.put, aS, aZ, aC]
                refine tkH 22 (some 121) _ rfl (Or.inr ⟨by rfl, rfl⟩) ?_
                try simp only [Act.put, aS, aZ, aC]
                refine tkH 23 (some 122) _ rfl (Or.inr ⟨by rfl, rfl⟩) ?_
                try simp only [Act.put, aS, aZ, aC]
                refine tkH 24 (some 123) _ rfl (Or.inr ⟨by rfl, rfl⟩) ?_
                try simp only [Act.put, aS, aZ, aC]
                refine tkH 25 (some 124) _ rfl (Or.inr ⟨by rfl, rfl⟩) ?_
                try simp only [Act.put, aS, aZ, aC]
                refine tkH 26 (some 125) _ rfl (Or.inr ⟨by rfl, rfl⟩) ?_
                try simp only [Act.put, aS, aZ, aC]
                refine tkH 27 (some 126) _ rfl (Or.inr ⟨by rfl, rfl⟩) ?_
                try simp only [Act.put, aS, aZ, aC]
                refine tkH 28 (some 127) _ rfl (Or.inr ⟨by rfl, rfl⟩) ?_
                try simp only [Act.put, aS, aZ, aC]
                refine tkH 29 (some 128) _ rfl (Or.inr ⟨by rfl, rfl⟩) ?_
                try simp only [Act.put, aS, aZ, aC]
                refine tkH 30 (some 129) _ rfl (Or.inr ⟨by rfl, rfl⟩) ?_
                try simp only [Act.put, aS, aZ, aC]
                refine tkH 31 (some 130) _ rfl (Or.inr ⟨by rfl, rfl⟩) ?_
                try simp only [Act.put, aS, aZ, aC]
                refine tkH 32 (some 131) _ rfl (Or.inr ⟨by rfl, rfl⟩) ?_
                try simp only [Act.put, aS, aZ, aC]
                refine tkH 33 (some 132) _ rfl (Or.inr ⟨by rfl, rfl⟩) ?_
                try simp only [Act.put, aS, aZ, aC]
                refine tkH 34 (some 133) _ rfl (Or.inr ⟨by rfl, rfl⟩) ?_
                try simp only [Act.put, aS, aZ, aC]
                refine tkH 35 (some 134) ?_ rfl (Or.inl ⟨by rfl, ?_⟩) ?_; rotate_left
                ·intro w hSw; (try dsimp only at hSw); go_simp <;> with_reducible rfl
                try simp only [Act.put, aS, aZ, aC]
                refine tkH 36 (some 135) ?_ rfl (Or.inl ⟨by rfl, ?_⟩) ?_; rotate_left
                ·intro w hSw; (try dsimp only at hSw); go_simp <;> with_reducible rfl
                try simp only [Act.put, aS, aZ, aC]
                refine tkH 37 (some 12) ?_ rfl (Or.inl ⟨by rfl, ?_⟩) ?_; rotate_left
                ·intro w hSw; (try dsimp only at hSw); go_simp <;> with_reducible rfl
                try simp only [Act.put, aS, aZ, aC]
                refine wpAnyH_done (by kernel_rfl) ?_ _
                have Bd := Bk.trans (hHeld.mono hzq)
                clear hHeld
                go_wp2_with (fail)
                exact ⟨⟨k + 1, by omega, by omega, by rw [hap.out], by go_num, Bd⟩, by simp [RowKit.intOf]; omega⟩
              ·have hk3n : (kind != 3) = true := by simpa using k3
               have hap := hid (show apS kind i PS (k + 1) = (E2 != X) by rw [hsu.out, decide_eq_true hk1, Bool.true_and, hga.out, Bool.false_or]; rw [decide_eq_true k3]; simp)
               clear hsu hga
               refine wp_region_held_drew (S := (fun V => Below Wq.drew.heap.size Wq.drew V)) (by kernel_rfl) hst (fun hHeld => ?_)
               generalize Wq.drew = W5 at *
               refine tkH 0 (some 99) ?_ rfl (Or.inl ⟨by rfl, ?_⟩) ?_; rotate_left
               ·intro w hSw; (try dsimp only at hSw); go_simp <;> with_reducible rfl
               try simp only [Act.put, aS, aZ, aC]
               refine tkH 1 (some 100) ?_ rfl (Or.inl ⟨by rfl, ?_⟩) ?_; rotate_left
               ·intro w hSw; (try dsimp only at hSw); go_simp <;> with_reducible rfl
               try simp only [Act.put, aS, aZ, aC]
               refine tkH 2 (some 101) ?_ rfl (Or.inl ⟨by rfl, ?_⟩) ?_; rotate_left
               ·intro w hSw; (try dsimp only at hSw); go_simp <;> with_reducible rfl
               try simp only [Act.put, aS, aZ, aC]
               refine tkH 3 (some 102) ?_ rfl (Or.inl ⟨by rfl, ?_⟩) ?_; rotate_left
               ·intro w hSw; (try dsimp only at hSw); go_simp <;> with_reducible rfl
               try simp only [Act.put, aS, aZ, aC]
               refine tkH 4 (some 103) ?_ rfl (Or.inl ⟨by rfl, ?_⟩) ?_; rotate_left
               ·intro w hSw; (try dsimp only at hSw); go_simp <;> with_reducible rfl
               try simp only [Act.put, aS, aZ, aC]
               refine tkH 5 (some 104) ?_ rfl (Or.inl ⟨by rfl, ?_⟩) ?_; rotate_left
               ·intro w hSw; (try dsimp only at hSw); go_simp <;> with_reducible rfl
               try simp only [Act.put, aS, aZ, aC]
               refine tkH 6 (some 105) ?_ rfl (Or.inl ⟨by rfl, ?_⟩) ?_; rotate_left
               ·intro w hSw; (try dsimp only at hSw); go_simp <;> with_reducible rfl
               try simp only [Act.put, aS, aZ, aC]
               refine tkH 7 (some 106) ?_ rfl (Or.inl ⟨by rfl, ?_⟩) ?_; rotate_left
               ·intro w hSw; (try dsimp only at hSw); go_simp <;> with_reducible rfl
               try simp only [Act.put, aS, aZ, aC]
               refine tkH 8 (some 107) ?_ rfl (Or.inl ⟨by rfl, ?_⟩) ?_; rotate_left
               ·intro w hSw; (try dsimp only at hSw); go_simp <;> with_reducible rfl
               try simp only [Act.put, aS, aZ, aC]
               refine tkH 9 (some 108) ?_ rfl (Or.inl ⟨by rfl, ?_⟩) ?_; rotate_left
               ·intro w hSw; (try dsimp only at hSw); have h9 := kK.out _ hSw; go_simp <;> with_reducible rfl
               try simp only [Act.put, aS, aZ, aC]
               refine tkH 10 (some 109) ?_ rfl (Or.inl ⟨by rfl, ?_⟩) ?_; rotate_left
               ·intro w hSw; (try dsimp only at hSw); go_simp <;> with_reducible rfl
               try simp only [Act.put, aS, aZ, aC]
               refine tkH 11 (some 110) ?_ rfl (Or.inl ⟨by rfl, ?_⟩) ?_; rotate_left
               ·intro w hSw; (try dsimp only at hSw); go_simp <;> with_reducible rfl
               try simp only [Act.put, aS, aZ, aC]
               refine tkH 12 (some 111) ?_ rfl (Or.inl ⟨by rfl, ?_⟩) ?_; rotate_left
               ·intro w hSw; (try dsimp only at hSw); go_simp <;> with_reducible rfl
               try simp only [Act.put, aS, aZ, aC]
               refine tkH 13 (some 112) _ rfl (Or.inr ⟨by rfl, rfl⟩) ?_
               try simp only [Act.put, aS, aZ, aC]
               refine tkH 14 (some 113) _ rfl (Or.inr ⟨by rfl, rfl⟩) ?_
               try simp only [Act.put, aS, aZ, aC]
               refine tkH 15 (some 114) ?_ rfl (Or.inl ⟨by rfl, ?_⟩) ?_; rotate_left
               ·intro w hSw; (try dsimp only at hSw); go_simp <;> with_reducible rfl
               try simp only [Act.put, aS, aZ, aC]
               refine tkH 16 (some 115) ?_ rfl (Or.inl ⟨by rfl, ?_⟩) ?_; rotate_left
               ·intro w hSw; (try dsimp only at hSw); go_simp <;> with_reducible rfl
               try simp only [Act.put, aS, aZ, aC]
               refine tkH 17 (some 116) ?_ rfl (Or.inl ⟨by rfl, ?_⟩) ?_; rotate_left
               ·intro w hSw; (try dsimp only at hSw); go_simp <;> with_reducible rfl
               try simp only [Act.put, aS, aZ, aC]
               refine tkH 18 (some 117) ?_ rfl (Or.inl ⟨by rfl, ?_⟩) ?_; rotate_left
               ·intro w hSw; (try dsimp only at hSw); go_simp <;> with_reducible rfl
               try simp only [Act.put, aS, aZ, aC]
               refine tkH 19 (some 118) ?_ rfl (Or.inl ⟨by rfl, ?_⟩) ?_; rotate_left
               ·intro w hSw; (try dsimp only at hSw); go_simp <;> with_reducible rfl
               try simp only [Act.put, aS, aZ, aC]
               refine tkH 20 (some 119) ?_ rfl (Or.inl ⟨by rfl, ?_⟩) ?_; rotate_left
               ·intro w hSw; (try dsimp only at hSw); go_simp <;> with_reducible rfl
               try simp only [Act.put, aS, aZ, aC]
               refine tkH 21 (some 120) ?_ rfl (Or.inl ⟨by rfl, ?_⟩) ?_; rotate_left
               ·intro w hSw; (try dsimp only at hSw); have h9 := kP.out _ hSw; go_simp <;> with_reducible rfl
               try simp only [Act.put, aS, aZ, aC]
               refine tkH 22 (some 121) ?_ rfl (Or.inl ⟨by rfl, ?_⟩) ?_; rotate_left
               ·intro w hSw; (try dsimp only at hSw); go_simp <;> with_reducible rfl
               try simp only [Act.put, aS, aZ, aC]
               refine tkH 23 (some 122) _ rfl (yieldsIf_slice (by rfl) 42 (.tmp 120) none (some (.tmp 121)) rfl (.slice p9 k c9) (hsv.out)) ?_
               try simp only [Act.put, aS, aZ, aC]
               refine tkH 25 (some 124) ?_ rfl (Or.inl ⟨by rfl, ?_⟩) ?_; rotate_left
               ·intro w hSw; (try dsimp only at hSw); go_simp <;> with_reducible rfl
               try simp only [Act.put, aS, aZ, aC]
               refine tkH 26 (some 125) ?_ rfl (Or.inl ⟨by rfl, ?_⟩) ?_; rotate_left
               ·intro w hSw; (try dsimp only at hSw); go_simp <;> with_reducible rfl
               try simp only [Act.put, aS, aZ, aC]
               refine tkH 27 (some 126) ?_ rfl (Or.inl ⟨by rfl, ?_⟩) ?_; rotate_left
               ·intro w hSw; (try dsimp only at hSw); go_simp <;> with_reducible rfl
               try simp only [Act.put, aS, aZ, aC]
               refine tkH 28 (some 127) ?_ rfl (Or.inl ⟨by rfl, ?_⟩) ?_; rotate_left
               ·intro w hSw; (try dsimp only at hSw); go_simp <;> with_reducible rfl
               try simp only [Act.put, aS, aZ, aC]
               refine tkH 29 (some 128) ?_ rfl (Or.inl ⟨by rfl, ?_⟩) ?_; rotate_left
               ·intro w hSw; (try dsimp only at hSw); have h9 := kP.out _ hSw; go_simp <;> with_reducible rfl
               try simp only [Act.put, aS, aZ, aC]
               refine tkH 30 (some 129) ?_ rfl (Or.inl ⟨by rfl, ?_⟩) ?_; rotate_left
               ·intro w hSw; (try dsimp only at hSw); go_simp <;> with_reducible rfl
               try simp only [Act.put, aS, aZ, aC]
               refine tkH 31 (some 130) ?_ rfl (Or.inl ⟨by rfl, ?_⟩) ?_; rotate_left
               ·intro w hSw; (try dsimp only at hSw); go_simp <;> with_reducible rfl
               try simp only [Act.put, aS, aZ, aC]
               refine tkH 32 (some 131) ?_ rfl (Or.inl ⟨by rfl, ?_⟩) ?_; rotate_left
               ·intro w hSw; (try dsimp only at hSw); go_simp <;> with_reducible rfl
               try simp only [Act.put, aS, aZ, aC]
               refine tkH 33 (some 132) ?_ rfl (Or.inl ⟨by rfl, ?_⟩) ?_; rotate_left
               ·intro w hSw; (try dsimp only at hSw); have h9 := kX.out _ hSw; go_simp <;> with_reducible rfl
               try simp only [Act.put, aS, aZ, aC]
               refine wpAnyH_ready (rs := [24]) (by kernel_rfl) (by simp) ?_
               refine AllReadyH.cons (o := ⟨some 123, _, _, _, _, _⟩) rfl (fun K hK => ?_) AllReadyH.nil
               go_simp
               refine (cWd.out _ hHeld).mono ?_
               rintro r w7 ⟨rfl, b7⟩
               have b8 := hHeld.trans (b7.mono hHeld.size)
               clear hHeld b7
               refine hK.out _ _ (b8) (fun hHeld => ?_)
               clear hK K
               try simp only [Act.put, aS, aZ, aC]
               refine tkH 34 (some 133) ?_ rfl (Or.inl ⟨by rfl, ?_⟩) ?_; rotate_left
               ·intro w hSw; (try dsimp only at hSw); go_simp <;> with_reducible rfl
               try simp only [Act.put, aS, aZ, aC]
               refine tkH 35 (some 134) ?_ rfl (Or.inl ⟨by rfl, ?_⟩) ?_; rotate_left
               ·intro w hSw; (try dsimp only at hSw); go_simp <;> with_reducible rfl
               try simp only [Act.put, aS, aZ, aC]
               refine tkH 36 (some 135) ?_ rfl (Or.inl ⟨by rfl, ?_⟩) ?_; rotate_left
               ·intro w hSw; (try dsimp only at hSw); go_simp <;> with_reducible rfl
               try simp only [Act.put, aS, aZ, aC]
               refine tkH 37 (some 12) ?_ rfl (Or.inl ⟨by rfl, ?_⟩) ?_; rotate_left
               ·intro w hSw; (try dsimp only at hSw); go_simp <;> with_reducible rfl
               try simp only [Act.put, aS, aZ, aC]
               refine wpAnyH_done (by kernel_rfl) ?_ _
               have Bd := Bk.trans (hHeld.mono hzq)
               clear hHeld
               go_wp2_with (fail)
               exact ⟨⟨k + 1, by omega, by omega, by rw [hap.out], by go_num, Bd⟩, by simp [RowKit.intOf]; omega⟩
           ·have hap := hid (fun (h : apS kind i PS k = true) => apS_yes h (show k ≤ PS.length by
             rw [hm.out]
             rcases hk2 with h9 | h9
             ·exact h9
             ·exfalso; rw [h9, apS_one] at h; cases h))
            have BD := Bi.trans (Bz.mono Bi.size)
            have r2 := hr2.out _ Bz
            have r3 := hr3.out _ Bz
            have s0 := (kS.out _ (BW1.trans (Bz.mono BW1.size))).1
            obtain ⟨ap, hap0⟩ : ∃ b, apS kind i PS k = b := ⟨_, rfl⟩
            rw [hap0] at hap ⊢
            have hE4 := hid (fun h1 h2 h3 => hE3.out h1 h2 (by obtain ⟨j, j1, j2, j3, j4⟩ := hap.out h3; rw [hm.out] at j2; exact ⟨j, j1, j2, j3, j4⟩))
            clear hap hap0 hE3
            cases ob with
            | true =>
             obtain ⟨m1, m2⟩ := hE1.out rfl
             subst m1
             have m2n : ¬ E ≤ a := by omega
             go_wp2_with (fail)
             exact ⟨⟨i + 1, by omega, by go_num, BD⟩, by simp [RowKit.intOf]; omega⟩
            | false =>
             have m2 := hE2.out rfl
             have m2n : ¬ a < E := by omega
             cases lb with
             | true =>
              go_wp2_with (fail)
              exact ⟨⟨i + 1, by omega, by go_num, BD⟩, by simp [RowKit.intOf]; omega⟩
             | false =>
              cases ap with
              | true =>
               have m3 : (E != a) = false := by rw [hE4.out rfl rfl rfl]; simp
               go_wp2_with (fail)
               exact ⟨⟨i + 1, by omega, by go_num, BD⟩, by simp [RowKit.intOf]; omega⟩
              | false =>
               go_wp2_with (fail)
               exact ⟨⟨i + 1, by omega, by go_num, BD⟩, by simp [RowKit.intOf]; omega⟩
         ·obtain rfl : i = M := by omega
          go_wp2_with (fail)
          refine (cK.out _ BW1).mono ?_
          rintro r w9 ⟨rfl, b9⟩
          have BZ := hB0.trans ((BW1.trans (b9.mono BW1.size)).mono hz1)
          go_wp2_with (fail)
          go_ret
          exact ⟨rfl, BZ⟩
end Go.Proofs.YtempicociampoaaGreatDoor
