/- The walk of LinesOne (printed by gen_lpb.py). -/
import Derived.Test.YtempicociampoaaDoorJ24
namespace Go.Proofs.YtempicociampoaaDoor
open Go.RowKit Go.Shelf Go.Lib

set_option maxRecDepth 100000 in
set_option maxHeartbeats 8000000 in
theorem LinesOne_any (wv : Value) (ws : List ByteArray) (a b c d e : Int) (w : World) (hsl : Sl w 1 encS wv ws) (hsz : ∀ s ∈ ws, s.size ≤ 2000000) (ha : w64 a) (hT : Tabs w) (hR : Asp w) :
    Calls Tryd.prog 3 #[wv, .agg #[.int .i64 a, .int .i64 b, .int .i64 c, .int .i64 d, .int .i64 e]] w fun r w' => r = .returned (.bool true) ∧ Below w.heap.size w w' := by
  obtain ⟨pw, cw, rfl, hmN⟩ := hsl.shape
  unfold maxLen at hmN
  have hB0 := (Below.refl w.heap.size w).alloc (Nat.le_refl _) (.cells #[.int .i64 a, .int .i64 b, .int .i64 c, .int .i64 d, .int .i64 e] 24)
  have gS := World.alloc_heap_new w (.cells #[.int .i64 a, .int .i64 b, .int .i64 c, .int .i64 d, .int .i64 e] 24)
  obtain ⟨n₀, hn₀⟩ : ∃ n, w.heap.size = n := ⟨_, rfl⟩
  obtain ⟨W1, hW1⟩ : ∃ W : World, W = w.alloc (.cells #[.int .i64 a, .int .i64 b, .int .i64 c, .int .i64 d, .int .i64 e] 24) := ⟨_, rfl⟩
  rw [← hW1, hn₀] at hB0 gS
  rw [hn₀]
  have hz1 : n₀ ≤ W1.heap.size := by have := hB0.size; omega
  have sB : ∀ W, Below W1.heap.size W1 W → W.heap[n₀]? = some (.cells #[.int .i64 a, .int .i64 b, .int .i64 c, .int .i64 d, .int .i64 e] 24 (0, 0)) := fun W h => (Kept.of_below h 0).same _ _ gS (.inl rfl)
  have hTW := hid (fun W (h : Below W1.heap.size W1 W) => hT.below (hn₀ ▸ hB0.trans (h.mono hz1)))
  have hRW := hid (fun W (h : Below W1.heap.size W1 W) => hR.below (hn₀ ▸ hB0.trans (h.mono hz1)))
  have hWs := hid (fun W (h : Below W1.heap.size W1 W) => (Kept.of_below (hn₀ ▸ hB0.trans (h.mono hz1) : Below w.heap.size w W) 0).sl hsl)
  have cK := hid (fun W (h : Below W1.heap.size W1 W) => wakes19 W (hTW.out W h) (hRW.out W h))
  have cG := hid (rGoodS_any a b c d e W1)
  obtain ⟨gb, hgb⟩ : ∃ x, goodS a b c d e = x := ⟨_, rfl⟩
  rw [hgb] at cG
  have cH := hid (fun W (h : Below W1.heap.size W1 W) (v : Value) (hv : Sl W 2 encPt v [(2, .slice pw ws.length cw, ws)]) => rGood_any v [(2, .slice pw ws.length cw, ws)] W hv (fun x hx => by obtain rfl := List.mem_singleton.1 hx; exact hWs.out W h) (fun x hx => by obtain rfl := List.mem_singleton.1 hx; exact hsz))
  obtain ⟨hb, hhb⟩ : ∃ x, allG [(2, Value.slice pw ws.length cw, ws)] = x := ⟨_, rfl⟩
  rw [hhb] at cH
  have hgood : hb = true → ∀ s ∈ ws, goodW s.data.toList := fun h s hs => by
    rw [h] at hhb
    unfold allG goodB at hhb
    simp only [List.all_cons, List.all_nil, Bool.and_true, Bool.and_eq_true] at hhb
    have := List.all_eq_true.1 hhb.1 s hs
    exact of_decide_eq_true this
  replace hgood := hid hgood
  have cOf := hid (fun W (h : Below W1.heap.size W1 W) (hs : ∀ s ∈ ws, s.size ≤ 1000) (hn : ws.length ≤ 300) (hd : w64 d) (he : w64 e) => LOf_any 2 (.slice pw ws.length cw) ws a b c d e W hn hs (hWs.out W h) ha hd he (hTW.out W h) (hRW.out W h))
  obtain ⟨N, hN⟩ : ∃ n, ws.length = n := ⟨_, rfl⟩
  rw [hN] at hWs cH cOf hmN ⊢
  have s0 := cell_blk (i := 0) gS rfl
  have s1 := cell_blk (i := 1) gS rfl
  have s2 := cell_blk (i := 2) gS rfl
  have s3 := cell_blk (i := 3) gS rfl
  have s4 := cell_blk (i := 4) gS rfl
  replace sB := hid sB
  clear hhb hsl
  replace hN := hid hN
  replace hgb := hid hgb
  go_enter Tryd.func3, Tryd.ntmps3
  go_upto_region 1 with (fail)
  rw [← hW1]
  clear hW1 gS
  try simp only [hn₀]
  go_wp2_with (fail)
  refine cG.out.mono ?_
  rintro r w2 ⟨rfl, b2⟩
  have B2 : Below W1.heap.size W1 w2 := b2
  clear s0 s1 s2 s3 s4 b2 cG
  cases gb with
  | false =>
    go_wp2_with (fail)
    refine (cK.out _ B2).mono ?_
    rintro r w9 ⟨rfl, b9⟩
    have BZ := hB0.trans ((B2.trans (b9.mono B2.size)).mono hz1)
    go_wp2_with (fail)
    go_ret
    exact ⟨rfl, BZ⟩
  | true =>
    have hg := of_decide_eq_true (show decide _ = true from hgb.out)
    by_cases h0 : N = 0
    · subst h0
      go_wp2_with (fail)
      refine (cK.out _ B2).mono ?_
      rintro r w9 ⟨rfl, b9⟩
      have BZ := hB0.trans ((B2.trans (b9.mono B2.size)).mono hz1)
      go_wp2_with (fail)
      go_ret
      exact ⟨rfl, BZ⟩
    · have h0b : ((N : Int) == 0) = false := by simp; omega
      by_cases h12 : 12 < N
      · have h12I : (12 : Int) < (N : Int) := by omega
        go_wp2_with (fail)
        refine (cK.out _ B2).mono ?_
        rintro r w9 ⟨rfl, b9⟩
        have BZ := hB0.trans ((B2.trans (b9.mono B2.size)).mono hz1)
        go_wp2_with (fail)
        go_ret
        exact ⟨rfl, BZ⟩
      · have h12I : ¬ (12 : Int) < (N : Int) := by omega
        have gP := World.alloc_heap_new w2 (.cells #[.int .i64 2, .slice pw N cw] 28)
        have B3 := B2.alloc B2.size (.cells #[.int .i64 2, .slice pw N cw] 28)
        have cH1 := hid (cH.out _ B3 (.slice (some ⟨w2.heap.size, 0, none⟩) 1 1) (sl_of_block (l := [((2 : Int), Value.slice pw N cw, ws)]) (cap := 1) gP rfl (fun _ _ => rfl) (Nat.le_refl _) (by decide)))
        clear gP cH
        replace hg := hid hg
        go_wp2_with (fail)
        refine cH1.out.mono ?_
        rintro r w4 ⟨rfl, b4⟩
        have B4 := B3.trans (b4.mono B3.size)
        clear cH1 B3 b4 B2
        cases hb with
        | false =>
          go_wp2_with (fail)
          refine (cK.out _ B4).mono ?_
          rintro r w9 ⟨rfl, b9⟩
          have BZ := hB0.trans ((B4.trans (b9.mono B4.size)).mono hz1)
          go_wp2_with (fail)
          go_ret
          exact ⟨rfl, BZ⟩
        | true =>
          have hgw := hid (hgood.out rfl)
          clear hgood
          have hg1 := hg.out
          have hne : ws ≠ [] := fun h => by rw [h] at hN; exact h0 hN.out.symm
          have hpw : ∃ bw ow, pw = some ⟨bw, ow, none⟩ := by
            obtain ⟨bw, ow, cw', e9, -, -, -⟩ := (hWs.out _ B4).open hne
            exact ⟨bw, ow, (Value.slice.inj e9).1⟩
          obtain ⟨bw, ow, rfl⟩ := hpw
          have kW := hid (fun W (h : Below W1.heap.size W1 W) (k : Nat) (s : ByteArray) (hs : ws[k]? = some s) => (show W.cell? ⟨bw, ow + k, none⟩ = some (.string s) from by
            obtain ⟨b8, o8, c8, e8, -, -, h8⟩ := (hWs.out W h).open hne
            obtain ⟨h7, -, -⟩ := Value.slice.inj e8
            obtain ⟨rfl, rfl, -⟩ := Addr.mk.inj (Option.some.inj h7)
            have := rangeAt_one (h8 k s hs)
            rwa [Nat.mul_one] at this))
          have cM := hid (fun W (h : Below W1.heap.size W1 W) (s : ByteArray) (hs : s ∈ ws) => (show Calls Tryd.prog 7 #[.string s] W fun e w' => e = .returned (.int .i64 (tm s)) ∧ Below W.heap.size W w' from MText2_any s W (hsz s hs) (hTW.out W h)))
          have hpb := hid (fun k => posW_bd ws 2000000 hsz k)
          have hwm := hid (fun k => wideW_mono ws k)
          have hww := hid (fun k => wideW_succ ws k)
          have hwd := hid (fun k => (show wideW ws k = if k = 0 then 0 else posW ws k - 4 from rfl))
          have hps := hid (fun k => (show posW ws (k + 1) = posW ws k + tm (ws.getD k eb0) + 4 from rfl))
          have hgd : ∀ k (hk : k < N), ∃ s, ws[k]? = some s ∧ ws.getD k eb0 = s ∧ s ∈ ws := fun k hk => ⟨ws[k]'(by rw [hN.out]; exact hk), List.getElem?_eq_getElem _, by rw [List.getD_eq_getElem?_getD, List.getElem?_eq_getElem (by rw [hN.out]; exact hk)]; rfl, List.getElem_mem _⟩
          replace hgd := hid hgd
          go_wp2_with (fail)
          go_loopw [5, 6] (fun xv iv wr => ∃ k : Nat, k ≤ N ∧ xv = .int .i64 (wideW ws k) ∧ iv = .int .i64 (k : Int) ∧ Below W1.heap.size W1 wr) (fun _ iv _ => N - (RowKit.intOf iv).toNat)
          case atStart => exact ⟨0, Nat.zero_le _, rfl, rfl, B4⟩
          case round =>
            clear B4
            obtain ⟨k, hk, rfl, rfl, Bk⟩ := hrel
            have hb1 := (hpb.out k)
            have hb2 := hwd.out k
            have hb3 := (hwm.out k).1
            by_cases hkl : k < N
            · have hkI : (k : Int) < (N : Int) := by omega
              obtain ⟨s, hs, hs2, hsm⟩ := hgd.out k hkl
              have hck := kW.out _ Bk k s hs
              have hsu := hww.out k
              rw [hs2] at hsu
              have htb := tm_bd s
              have hss := hsz s hsm
              have cMs := hid (cM.out _ Bk s hsm)
              have hXb : wideW ws k ≤ 300000000 := by
                rw [hb2]; split
                · omega
                · omega
              obtain ⟨X, hX⟩ : ∃ X, wideW ws k = X := ⟨_, rfl⟩
              obtain ⟨T, hTt⟩ : ∃ T, tm s = T := ⟨_, rfl⟩
              rw [hX] at hb3 hXb hsu ⊢
              rw [hTt] at hsu htb cMs
              replace hsu := hid hsu
              clear hX hTt hb1 hb2
              have w1 : IntKind.i64.wrap (X + 4) = X + 4 := by rw [IntKind.wrap_i64]; omega
              have w2 : IntKind.i64.wrap (X + T) = X + T := by rw [IntKind.wrap_i64]; omega
              have w3 : IntKind.i64.wrap (X + 4 + T) = X + 4 + T := by rw [IntKind.wrap_i64]; omega
              by_cases k0 : 0 < k
              · have k0I : (0 : Int) < (k : Int) := by omega
                go_wp2_with (fail)
                refine cMs.out.mono ?_
                rintro r w5 ⟨rfl, b5⟩
                have B5 := Bk.trans (b5.mono Bk.size)
                go_wp2_with (fail)
                exact ⟨⟨k + 1, by omega, by rw [hsu.out, if_pos k0], by go_num, B5⟩, by simp [RowKit.intOf]; omega⟩
              · have k0I : ¬ (0 : Int) < (k : Int) := by omega
                go_wp2_with (fail)
                refine cMs.out.mono ?_
                rintro r w5 ⟨rfl, b5⟩
                have B5 := Bk.trans (b5.mono Bk.size)
                go_wp2_with (fail)
                exact ⟨⟨k + 1, by omega, by rw [hsu.out, if_neg k0], by go_num, B5⟩, by simp [RowKit.intOf]; omega⟩
            · obtain rfl : k = N := by omega
              have hwk := (hwm.out k).2
              obtain ⟨X, hX⟩ : ∃ X, wideW ws k = X := ⟨_, rfl⟩
              rw [hX] at hwk ⊢
              replace hX := hid hX
              have s0 := cell_blk (i := 0) (sB.out _ Bk) rfl
              clear hb1 hb2 hb3
              by_cases hfit : a < X
              · go_wp2_with (fail)
                refine (cK.out _ Bk).mono ?_
                rintro r w9 ⟨rfl, b9⟩
                have BZ := hB0.trans ((Bk.trans (b9.mono Bk.size)).mono hz1)
                go_wp2_with (fail)
                go_ret
                exact ⟨rfl, BZ⟩
              · have hsk : ∀ s ∈ ws, okW s := fun s hs => by
                  obtain ⟨i, hi, rfl⟩ := List.getElem_of_mem hs
                  refine goodW_size (hgw.out _ hs) ?_
                  have hi2 : i < k := by rw [← hN.out]; exact hi
                  have h9 := hwk i hi2
                  rw [List.getD_eq_getElem?_getD, List.getElem?_eq_getElem hi] at h9
                  have h8 : tm ws[i] ≤ X := h9
                  omega
                have hone := one_head (a := a) (c := c) (d := d) (e := e) hsk hne (by rw [hN.out]; omega) ⟨by omega, by omega⟩ ⟨by omega, by omega⟩ (by rw [hN.out, hX.out]; omega)
                have cO := cOf.out _ Bk (fun s hs => (hsk s hs).2) (by omega) (by constructor <;> omega) (by constructor <;> omega)
                rw [hone, hN.out] at cO
                obtain ⟨PS, hPS⟩ : ∃ y, ((List.range k).map fun i => (posW ws i, ws.getD i eb0)) = y := ⟨_, rfl⟩
                have hPl : PS.length = k := by rw [← hPS]; simp
                have hPg : ∀ i, i < k → PS[i]? = some (posW ws i, ws.getD i eb0) := fun i hi => by rw [← hPS, List.getElem?_map, List.getElem?_range hi]; rfl
                rw [hPS] at cO
                replace cO := hid cO
                replace hPl := hid hPl
                replace hPg := hid hPg
                have s1 := cell_blk (i := 1) (sB.out _ Bk) rfl
                have s2 := cell_blk (i := 2) (sB.out _ Bk) rfl
                have s3 := cell_blk (i := 3) (sB.out _ Bk) rfl
                have s4 := cell_blk (i := 4) (sB.out _ Bk) rfl
                clear hPS hone hsk hwk hg1 cOf
                go_wp2_with (fail)
                refine cO.out.mono ?_
                rintro r w6 ⟨v6, rfl, L6, b6⟩
                have B6 := Bk.trans (b6.mono Bk.size)
                obtain ⟨bl, ol, cl, rfl, hc⟩ := L6.open (by simp)
                obtain ⟨-, q1, q2, q3, pp, pm, q4, hpc⟩ := hc 0 _ rfl
                dsimp only at q1 q2 q3 q4 hpc
                rw [hPl.out] at q4 hpc
                simp only [Nat.zero_mul, Nat.add_zero] at q1 q2 q3 q4
                rw [show ([⟨2, true, true, false, PS⟩] : List Ln).length = 1 from rfl]
                have hpcl := hid hpc.1
                have hbl : bl < w6.heap.size := cell_lt q1
                clear hc L6 cO s0 s1 s2 s3 s4 b6 Bk hpc
                have kQ := hid (fun W (h : Below w6.heap.size w6 W) => (h.cell (p := ⟨bl, ol + 4, none⟩) hbl).trans q4)
                have kR := hid (fun W (h : Below w6.heap.size w6 W) => (Kept.of_below h 0).sl hpcl.out)
                go_wp2_with (fail)
                clear q1 q2 q3 q4
                go_loopw [8, 9] (fun xv iv wr => ∃ i : Nat, i ≤ k ∧ xv = .int .i64 (posW ws i) ∧ iv = .int .i64 (i : Int) ∧ Below w6.heap.size w6 wr) (fun _ iv _ => k - (RowKit.intOf iv).toNat)
                case atStart => exact ⟨0, Nat.zero_le _, rfl, rfl, Below.refl _ _⟩
                case round =>
                  obtain ⟨i, hi, rfl, rfl, Bi⟩ := hrel
                  by_cases hik : i < k
                  · have hikI : (i : Int) < (k : Int) := by omega
                    obtain ⟨s, hs, hs2, hsm⟩ := hgd.out i hik
                    have hpi := hPg.out i hik
                    rw [hs2] at hpi
                    have hb1 := hpb.out i
                    have hpn := hps.out i
                    rw [hs2] at hpn
                    have htb := tm_bd s
                    have hss := hsz s hsm
                    have BW1 := B6.trans (Bi.mono B6.size)
                    obtain ⟨X1, hX1⟩ : ∃ X, posW ws i = X := ⟨_, rfl⟩
                    rw [hX1] at hpi hb1 hpn ⊢
                    have hX1b : X1 ≤ 300000000 := by omega
                    replace hpn := hid hpn
                    clear hX1
                    have hneq : ∀ w, (binOp .neq 38 (.agg #[.int .i64 X1, .string s]) (.agg #[.int .i64 X1, .string s])).run Tryd.prog w = .ok (.bool false) w := fun w => neq_pc (X1, s) w
                    obtain ⟨bp, op, cp', hpe, -, -, hp9⟩ := (kR.out _ Bi).open (by rintro rfl; simp at hpi)
                    obtain ⟨rfl, -, rfl⟩ := (show pp = some ⟨bp, op, none⟩ ∧ True ∧ pm = cp' from ⟨(Value.slice.inj hpe).1, trivial, (Value.slice.inj hpe).2.2⟩)
                    obtain ⟨p1, p2⟩ := piece_cells (hp9 i _ hpi)
                    have hck := kW.out _ BW1 i s hs
                    have hqk := kQ.out _ Bi
                    clear hp9 hpe
                    go_upto_region 19 with (fail)
                    obtain ⟨Wq, hWq⟩ : ∃ W : World, W = wr := ⟨_, rfl⟩
                    subst hWq
                    have bd : Below Wq.heap.size Wq Wq.drew := (Below.refl _ Wq).drewN 1
                    have Bd := Bi.trans (bd.mono Bi.size)
                    have BdW := BW1.trans (bd.mono BW1.size)
                    have hst : (fun V => V.cell? ⟨bl, ol + 4, none⟩ = some (.slice (some ⟨bp, op, none⟩) k pm) ∧ V.cell? ⟨bp, op + i * 2, none⟩ = some (.int .i64 X1) ∧ V.cell? ⟨bp, op + i * 2 + 1, none⟩ = some (.string s) ∧ V.cell? ⟨bw, ow + i, none⟩ = some (.string s)) Wq.drew := ⟨hqk, p1, p2, hck⟩
                    clear p1 p2 hqk hck bd Bi BW1
                    refine wp_region_held_drew (S := (fun V => V.cell? ⟨bl, ol + 4, none⟩ = some (.slice (some ⟨bp, op, none⟩) k pm) ∧ V.cell? ⟨bp, op + i * 2, none⟩ = some (.int .i64 X1) ∧ V.cell? ⟨bp, op + i * 2 + 1, none⟩ = some (.string s) ∧ V.cell? ⟨bw, ow + i, none⟩ = some (.string s))) (by kernel_rfl) hst (fun hHeld => ?_)
                    generalize Wq.drew = W5 at *
                    refine wpAnyH_take (i := 0) (oi := ⟨some 96, _, _, _, _, _⟩) (v := ?_) rfl (by kernel_rfl) (by kernel_rfl) (by kernel_rfl) (fun _ _ _ h => h) (Or.inl ⟨by rfl, ?_⟩) (by assumption) ?_
                    rotate_left
                    · intro w hSw; (try dsimp only at hSw); go_simp <;> with_reducible rfl
                    try simp only [Act.put, List.setIfInBounds_toArray, List.set_cons_zero, List.set_cons_succ]
                    refine wpAnyH_take (i := 1) (oi := ⟨some 97, _, _, _, _, _⟩) (v := ?_) rfl (by kernel_rfl) (by kernel_rfl) (by kernel_rfl) (fun _ _ _ h => h) (Or.inl ⟨by rfl, ?_⟩) (by assumption) ?_
                    rotate_left
                    · intro w hSw; (try dsimp only at hSw); go_simp <;> with_reducible rfl
                    try simp only [Act.put, List.setIfInBounds_toArray, List.set_cons_zero, List.set_cons_succ]
                    refine wpAnyH_take (i := 2) (oi := ⟨some 98, _, _, _, _, _⟩) (v := ?_) rfl (by kernel_rfl) (by kernel_rfl) (by kernel_rfl) (fun _ _ _ h => h) (Or.inl ⟨by rfl, ?_⟩) (by assumption) ?_
                    rotate_left
                    · intro w hSw; (try dsimp only at hSw); go_simp <;> with_reducible rfl
                    try simp only [Act.put, List.setIfInBounds_toArray, List.set_cons_zero, List.set_cons_succ]
                    refine wpAnyH_take (i := 3) (oi := ⟨some 99, _, _, _, _, _⟩) (v := ?_) rfl (by kernel_rfl) (by kernel_rfl) (by kernel_rfl) (fun _ _ _ h => h) (Or.inl ⟨by rfl, ?_⟩) (by assumption) ?_
                    rotate_left
                    · intro w hSw; (try dsimp only at hSw); have h9 := hSw.1; go_simp <;> with_reducible rfl
                    try simp only [Act.put, List.setIfInBounds_toArray, List.set_cons_zero, List.set_cons_succ]
                    refine wpAnyH_take (i := 4) (oi := ⟨some 100, _, _, _, _, _⟩) (v := ?_) rfl (by kernel_rfl) (by kernel_rfl) (by kernel_rfl) (fun _ _ _ h => h) (Or.inl ⟨by rfl, ?_⟩) (by assumption) ?_
                    rotate_left
                    · intro w hSw; (try dsimp only at hSw); go_simp <;> with_reducible rfl
                    try simp only [Act.put, List.setIfInBounds_toArray, List.set_cons_zero, List.set_cons_succ]
                    refine wpAnyH_take (i := 5) (oi := ⟨some 101, _, _, _, _, _⟩) (v := ?_) rfl (by kernel_rfl) (by kernel_rfl) (by kernel_rfl) (fun _ _ _ h => h) (Or.inl ⟨by rfl, ?_⟩) (by assumption) ?_
                    rotate_left
                    · intro w hSw; (try dsimp only at hSw); go_simp <;> with_reducible rfl
                    try simp only [Act.put, List.setIfInBounds_toArray, List.set_cons_zero, List.set_cons_succ]
                    refine wpAnyH_take (i := 6) (oi := ⟨some 102, _, _, _, _, _⟩) (v := ?_) rfl (by kernel_rfl) (by kernel_rfl) (by kernel_rfl) (fun _ _ _ h => h) (Or.inl ⟨by rfl, ?_⟩) (by assumption) ?_
                    rotate_left
                    · intro w hSw; (try dsimp only at hSw); have h9 := hSw.2.1; have h8 := hSw.2.2.1; go_simp <;> with_reducible rfl
                    try simp only [Act.put, List.setIfInBounds_toArray, List.set_cons_zero, List.set_cons_succ]
                    refine wpAnyH_take (i := 7) (oi := ⟨some 103, _, _, _, _, _⟩) (v := ?_) rfl (by kernel_rfl) (by kernel_rfl) (by kernel_rfl) (fun _ _ _ h => h) (Or.inl ⟨by rfl, ?_⟩) (by assumption) ?_
                    rotate_left
                    · intro w hSw; (try dsimp only at hSw); go_simp <;> with_reducible rfl
                    try simp only [Act.put, List.setIfInBounds_toArray, List.set_cons_zero, List.set_cons_succ]
                    refine wpAnyH_take (i := 8) (oi := ⟨some 104, _, _, _, _, _⟩) (v := ?_) rfl (by kernel_rfl) (by kernel_rfl) (by kernel_rfl) (fun _ _ _ h => h) (Or.inl ⟨by rfl, ?_⟩) (by assumption) ?_
                    rotate_left
                    · intro w hSw; (try dsimp only at hSw); go_simp <;> with_reducible rfl
                    try simp only [Act.put, List.setIfInBounds_toArray, List.set_cons_zero, List.set_cons_succ]
                    refine wpAnyH_take (i := 9) (oi := ⟨some 105, _, _, _, _, _⟩) (v := ?_) rfl (by kernel_rfl) (by kernel_rfl) (by kernel_rfl) (fun _ _ _ h => h) (Or.inl ⟨by rfl, ?_⟩) (by assumption) ?_
                    rotate_left
                    · intro w hSw; (try dsimp only at hSw); go_simp <;> with_reducible rfl
                    try simp only [Act.put, List.setIfInBounds_toArray, List.set_cons_zero, List.set_cons_succ]
                    refine wpAnyH_take (i := 10) (oi := ⟨some 106, _, _, _, _, _⟩) (v := ?_) rfl (by kernel_rfl) (by kernel_rfl) (by kernel_rfl) (fun _ _ _ h => h) (Or.inl ⟨by rfl, ?_⟩) (by assumption) ?_
                    rotate_left
                    · intro w hSw; (try dsimp only at hSw); go_simp <;> with_reducible rfl
                    try simp only [Act.put, List.setIfInBounds_toArray, List.set_cons_zero, List.set_cons_succ]
                    refine wpAnyH_take (i := 11) (oi := ⟨some 107, _, _, _, _, _⟩) (v := ?_) rfl (by kernel_rfl) (by kernel_rfl) (by kernel_rfl) (fun _ _ _ h => h) (Or.inl ⟨by rfl, ?_⟩) (by assumption) ?_
                    rotate_left
                    · intro w hSw; (try dsimp only at hSw); have h9 := hSw.2.2.2; go_simp <;> with_reducible rfl
                    try simp only [Act.put, List.setIfInBounds_toArray, List.set_cons_zero, List.set_cons_succ]
                    refine wpAnyH_take (i := 12) (oi := ⟨some 108, _, _, _, _, _⟩) (v := ?_) rfl (by kernel_rfl) (by kernel_rfl) (by kernel_rfl) (fun _ _ _ h => h) (Or.inl ⟨by rfl, ?_⟩) (by assumption) ?_
                    rotate_left
                    · intro w hSw; (try dsimp only at hSw); go_simp <;> with_reducible rfl
                    try simp only [Act.put, List.setIfInBounds_toArray, List.set_cons_zero, List.set_cons_succ]
                    refine wpAnyH_take (i := 13) (oi := ⟨some 109, _, _, _, _, _⟩) (v := ?_) rfl (by kernel_rfl) (by kernel_rfl) (by kernel_rfl) (fun _ _ _ h => h) (Or.inl ⟨by rfl, ?_⟩) (by assumption) ?_
                    rotate_left
                    · intro w hSw; (try dsimp only at hSw); go_simp <;> with_reducible rfl
                    try simp only [Act.put, List.setIfInBounds_toArray, List.set_cons_zero, List.set_cons_succ]
                    refine wpAnyH_done (by kernel_rfl) ?_ _
                    skip
                    clear hHeld hst hneq
                    have hck := kW.out _ BdW i s hs
                    have cMs := hid (cM.out _ BdW s hsm)
                    obtain ⟨T, hTt⟩ : ∃ T, tm s = T := ⟨_, rfl⟩
                    rw [hTt] at hpn htb cMs
                    clear hTt
                    have w1 : IntKind.i64.wrap (T + 4) = T + 4 := by rw [IntKind.wrap_i64]; omega
                    have w2 : IntKind.i64.wrap (X1 + (T + 4)) = X1 + (T + 4) := by rw [IntKind.wrap_i64]; omega
                    go_wp2_with (fail)
                    refine cMs.out.mono ?_
                    rintro r w5 ⟨rfl, b5⟩
                    have B5 := Bd.trans (b5.mono Bd.size)
                    go_wp2_with (fail)
                    exact ⟨⟨i + 1, by omega, by rw [hpn.out, Int.add_assoc], by go_num, B5⟩, by simp [RowKit.intOf]; omega⟩
                  · obtain rfl : i = k := by omega
                    have BF := B6.trans (Bi.mono B6.size)
                    clear kQ kR
                    go_wp2_with (fail)
                    refine (cK.out _ BF).mono ?_
                    rintro r w9 ⟨rfl, b9⟩
                    have BZ := hB0.trans ((BF.trans (b9.mono BF.size)).mono hz1)
                    go_wp2_with (fail)
                    go_ret
                    exact ⟨rfl, BZ⟩
end Go.Proofs.YtempicociampoaaDoor
