/- The walk of LinesText (printed by gen_lqd.py). -/
import Derived.Test.YtempicociampoaaGreatDoorSqz
import Derived.Test.YtempicociampoaaGreatDoorJ22
import Derived.Test.YtempicociampoaaGreatDoorLqC
import Derived.Test.YtempicociampoaaGreatDoorJ9
import Derived.Test.YtempicociampoaaGreatDoorMkX
namespace Go.Proofs.YtempicociampoaaGreatDoor
open Go.RowKit Go.Shelf Go.Lib

theorem LnsAt.shape {W : World} {v : Value} {L : List Ln} (h : LnsAt W v L) : ∃ p c, v = .slice p L.length c ∧ L.length ≤ maxLen := by
  obtain ⟨P, h1, h2, -⟩ := h
  obtain ⟨p, c, e, hm⟩ := h1.shape
  subst h2
  exact ⟨p, c, by rw [e, List.length_map], by rw [List.length_map]; exact hm⟩
set_option maxRecDepth 100000 in
set_option maxHeartbeats 8000000 in
theorem LinesText_any (kind : Int) (wv : Value) (ws : List ByteArray) (a b c d e : Int) (w : World) (hsl : Sl w 1 encS wv ws) (hsz : ∀ s ∈ ws, s.size ≤ 2000000) (ha : w64 a) (hT : Tabs w) (hR : Asp w) :
    Calls Tryz.prog 4 #[.agg #[.int .i64 kind, wv], .agg #[.int .i64 a, .int .i64 b, .int .i64 c, .int .i64 d, .int .i64 e]] w fun r w' => r = .returned (.bool true) ∧ Below w.heap.size w w' := by
  obtain ⟨pw, cw, rfl, hmN⟩ := hsl.shape
  unfold maxLen at hmN
  obtain ⟨N, hN⟩ : ∃ n, ws.length = n := ⟨_, rfl⟩
  rw [hN] at hsl hmN ⊢
  have gP := (Kept.alloc 0 (w.alloc (.cells #[.int .i64 kind, .slice pw N cw] 24)) (.cells #[.int .i64 a, .int .i64 b, .int .i64 c, .int .i64 d, .int .i64 e] 26)).same _ _ (World.alloc_heap_new w (.cells #[.int .i64 kind, .slice pw N cw] 24)) (.inl rfl)
  have gS := World.alloc_heap_new (w.alloc (.cells #[.int .i64 kind, .slice pw N cw] 24)) (.cells #[.int .i64 a, .int .i64 b, .int .i64 c, .int .i64 d, .int .i64 e] 26)
  have hB0 := ((Below.refl w.heap.size w).alloc (Nat.le_refl _) (.cells #[.int .i64 kind, .slice pw N cw] 24)).alloc (by simp) (.cells #[.int .i64 a, .int .i64 b, .int .i64 c, .int .i64 d, .int .i64 e] 26)
  obtain ⟨n₀, hn₀⟩ : ∃ n, w.heap.size = n := ⟨_, rfl⟩
  rw [World.size_alloc] at gS
  obtain ⟨W1, hW1⟩ : ∃ W : World, W = (w.alloc (.cells #[.int .i64 kind, .slice pw N cw] 24)).alloc (.cells #[.int .i64 a, .int .i64 b, .int .i64 c, .int .i64 d, .int .i64 e] 26) := ⟨_, rfl⟩
  rw [← hW1, hn₀] at gP gS hB0
  rw [hn₀]
  have hz1 : n₀ ≤ W1.heap.size := by have := hB0.size; omega
  have kS := hid (fun W (h : Below W1.heap.size W1 W) => (show W.cell? ⟨n₀ + 1, 0, none⟩ = some (.int .i64 a) ∧ W.cell? ⟨n₀ + 1, 1, none⟩ = some (.int .i64 b) ∧ W.cell? ⟨n₀ + 1, 2, none⟩ = some (.int .i64 c) ∧ W.cell? ⟨n₀ + 1, 3, none⟩ = some (.int .i64 d) ∧ W.cell? ⟨n₀ + 1, 4, none⟩ = some (.int .i64 e) from ⟨cell_blk (i := 0) ((Kept.of_below h 0).same _ _ gS (.inl rfl)) rfl, cell_blk (i := 1) ((Kept.of_below h 0).same _ _ gS (.inl rfl)) rfl, cell_blk (i := 2) ((Kept.of_below h 0).same _ _ gS (.inl rfl)) rfl, cell_blk (i := 3) ((Kept.of_below h 0).same _ _ gS (.inl rfl)) rfl, cell_blk (i := 4) ((Kept.of_below h 0).same _ _ gS (.inl rfl)) rfl⟩))
  have kP0 := hid (fun W (h : Below W1.heap.size W1 W) => (show W.cell? ⟨n₀, 0, none⟩ = some (.int .i64 kind) from cell_blk (i := 0) ((Kept.of_below h 0).same _ _ gP (.inl rfl)) rfl))
  have kP1 := hid (fun W (h : Below W1.heap.size W1 W) => (show W.cell? ⟨n₀, 1, none⟩ = some (.slice pw N cw) from cell_blk (i := 1) ((Kept.of_below h 0).same _ _ gP (.inl rfl)) rfl))
  have hTW := hid (fun W (h : Below W1.heap.size W1 W) => hT.below (hn₀ ▸ hB0.trans (h.mono hz1)))
  have hRW := hid (fun W (h : Below W1.heap.size W1 W) => hR.below (hn₀ ▸ hB0.trans (h.mono hz1)))
  have hWs := hid (fun W (h : Below W1.heap.size W1 W) => (Kept.of_below (hn₀ ▸ hB0.trans (h.mono hz1) : Below w.heap.size w W) 0).sl hsl)
  have cK := hid (fun W (h : Below W1.heap.size W1 W) => wakes19 W (hTW.out W h) (hRW.out W h))
  have cG := hid (rGoodS_any a b c d e W1)
  obtain ⟨gb, hgb⟩ : ∃ x, goodS a b c d e = x := ⟨_, rfl⟩
  rw [hgb] at cG
  have cH := hid (fun W (h : Below W1.heap.size W1 W) (v : Value) (hv : Sl W 2 encPt v [(kind, .slice pw N cw, ws)]) => rGood_any v [(kind, .slice pw N cw, ws)] W hv (fun x hx => by obtain rfl := List.mem_singleton.1 hx; exact hWs.out W h) (fun x hx => by obtain rfl := List.mem_singleton.1 hx; exact hsz))
  obtain ⟨hb, hhb⟩ : ∃ x, allG [(kind, Value.slice pw N cw, ws)] = x := ⟨_, rfl⟩
  rw [hhb] at cH
  have hgood : hb = true → (∀ s ∈ ws, goodW s.data.toList) ∧ (kind ≠ 4 → (1 ≤ kind ∧ kind ≤ 3) ∧ ws ≠ []) := fun h => by
    rw [h] at hhb
    unfold allG goodB at hhb
    simp only [List.all_cons, List.all_nil, Bool.and_true, Bool.and_eq_true] at hhb
    refine ⟨fun s hs => of_decide_eq_true (List.all_eq_true.1 hhb.1 s hs), fun h4 => ?_⟩
    have hk := hhb.2
    unfold kindB at hk
    rw [if_neg h4] at hk
    split at hk
    · rename_i h23
      exact ⟨by omega, fun h9 => by rw [h9] at hk; cases hk⟩
    · split at hk
      · rename_i h1
        exact ⟨by omega, fun h9 => by rw [h9] at hk; cases hk⟩
      · cases hk
  replace hgood := hid hgood
  have cOf := hid (fun W (h : Below W1.heap.size W1 W) (hs : ∀ s ∈ ws, s.size ≤ 1000) (hn : ws.length ≤ 300) (hd : w64 d) (he : w64 e) => LOf_any kind (.slice pw N cw) ws a b c d e W hn hs (hWs.out W h) ha hd he (hTW.out W h) (hRW.out W h))
  have cRf := hid (fun W (h : Below W1.heap.size W1 W) (hs : ∀ s ∈ ws, s.size ≤ 1000) (hn : ws.length ≤ 300) => ROf_any kind (.slice pw N cw) ws a b c d e W hn hs (hWs.out W h))
  have hgd : ∀ k (hk : k < N), ∃ s, ws[k]? = some s ∧ ws.getD k eb0 = s ∧ s ∈ ws := fun k hk => ⟨ws[k]'(by omega), List.getElem?_eq_getElem _, by rw [List.getD_eq_getElem?_getD, List.getElem?_eq_getElem (by omega)]; rfl, List.getElem_mem _⟩
  replace hgd := hid hgd
  have hmem : ∀ s ∈ ws, ∃ i, i < N ∧ ws.getD i eb0 = s := fun s hs => by
    obtain ⟨i, hi, rfl⟩ := List.getElem_of_mem hs
    exact ⟨i, by omega, by rw [List.getD_eq_getElem?_getD, List.getElem?_eq_getElem hi]; rfl⟩
  replace hmem := hid hmem
  have hw0 : wantS kind ws 0 = if kind = 3 then ⟨#[42, 32]⟩ else ⟨#[]⟩ := rfl
  have hwS := hid (fun k => (show wantS kind ws (k + 1) = (if 0 < k then wantS kind ws k ++ ⟨#[32]⟩ else wantS kind ws k) ++ ws.getD k eb0 from rfl))
  have s0 := kS.out _ (Below.refl _ _)
  obtain ⟨s0, s1, s2, s3, s4⟩ := s0
  clear hhb hsl gP gS
  replace hN := hid hN
  replace hgb := hid hgb
  replace hw0 := hid hw0
  go_enter Tryz.func4, Tryz.ntmps4
  go_upto_region 1 with (fail)
  rw [← hW1]
  clear hW1
  try simp only [hn₀]
  go_wp2_with (fail)
  refine cG.out.mono ?_
  rintro r w2 ⟨rfl, b2⟩
  have B2 : Below W1.heap.size W1 w2 := b2
  clear s0 s1 s2 s3 s4 b2 cG
  have q0 := kP0.out _ B2
  have q1 := kP1.out _ B2
  cases gb with
  | false =>
    go_wp2_with (fail)
    refine (cK.out _ B2).mono ?_
    rintro r w9 ⟨rfl, b9⟩
    have BZ := hB0.trans ((B2.trans (b9.mono B2.size)).mono hz1)
    go_wp2_with (fail)
    go_ret
    exact ⟨rfl, BZ⟩
  | true =>
    have hg := of_decide_eq_true (show decide _ = true from hgb.out)
    replace hg := hid hg
    have gP := World.alloc_heap_new w2 (.cells #[.int .i64 kind, .slice pw N cw] 24)
    have B3 := B2.alloc B2.size (.cells #[.int .i64 kind, .slice pw N cw] 24)
    have cH1 := hid (cH.out _ B3 (.slice (some ⟨w2.heap.size, 0, none⟩) 1 1) (sl_of_block (l := [(kind, Value.slice pw N cw, ws)]) (cap := 1) gP rfl (fun _ _ => rfl) (Nat.le_refl _) (by decide)))
    clear gP cH
    go_wp2_with (fail)
    refine cH1.out.mono ?_
    rintro r w4 ⟨rfl, b4⟩
    have B4 := B3.trans (b4.mono B3.size)
    clear cH1 B3 b4 B2 q0 q1
    have q0 := kP0.out _ B4
    have q1 := kP1.out _ B4
    cases hb with
    | false =>
      go_wp2_with (fail)
      refine (cK.out _ B4).mono ?_
      rintro r w9 ⟨rfl, b9⟩
      have BZ := hB0.trans ((B4.trans (b9.mono B4.size)).mono hz1)
      go_wp2_with (fail)
      go_ret
      exact ⟨rfl, BZ⟩
    | true =>
      obtain ⟨hgw, hkk⟩ := hgood.out rfl
      clear hgood
      by_cases k4 : kind = 4
      · subst k4
        go_wp2_with (fail)
        refine (cK.out _ B4).mono ?_
        rintro r w9 ⟨rfl, b9⟩
        have BZ := hB0.trans ((B4.trans (b9.mono B4.size)).mono hz1)
        go_wp2_with (fail)
        go_ret
        exact ⟨rfl, BZ⟩
      · obtain ⟨hk3, hne⟩ := hkk k4
        have hk4b : (kind == 4) = false := by simpa using k4
        clear hkk
        replace hgw := hid hgw
        by_cases h60 : 60 < N
        · have h60I : (60 : Int) < (N : Int) := by omega
          go_wp2_with (fail)
          refine (cK.out _ B4).mono ?_
          rintro r w9 ⟨rfl, b9⟩
          have BZ := hB0.trans ((B4.trans (b9.mono B4.size)).mono hz1)
          go_wp2_with (fail)
          go_ret
          exact ⟨rfl, BZ⟩
        · have h60I : ¬ (60 : Int) < (N : Int) := by omega
          have kW := hid (fun W (h : Below W1.heap.size W1 W) (k : Nat) (s : ByteArray) (hs : ws[k]? = some s) => (show ∃ bw ow, pw = some ⟨bw, ow, none⟩ ∧ W.cell? ⟨bw, ow + k, none⟩ = some (.string s) from by
            obtain ⟨b8, o8, c8, e8, -, -, h8⟩ := (hWs.out W h).open hne
            obtain ⟨h7, -, -⟩ := Value.slice.inj e8
            have := rangeAt_one (h8 k s hs)
            rw [Nat.mul_one] at this
            exact ⟨_, _, h7, this⟩))
          go_upto_if 32 with (fail)
          go_cut [5] (fun v wx => v = .string (wantS kind ws 0) ∧ wx = w4)
          case first =>
            by_cases k3 : kind = 3
            · have hk3b : (kind == 3) = true := by simpa using k3
              have hwe : wantS kind ws 0 = ⟨#[42, 32]⟩ := by rw [hw0.out, if_pos k3]
              go_wp2_with (fail)
              go_meet
              exact ⟨by rw [hwe], rfl⟩
            · have hk3b : (kind == 3) = false := by simpa using k3
              have hwe : wantS kind ws 0 = ⟨#[]⟩ := by rw [hw0.out, if_neg k3]
              go_wp2_with (fail)
              go_meet
              exact ⟨by rw [hwe], rfl⟩
          case rest =>
            obtain ⟨rfl, hwc⟩ := hcut
            rw [hwc]
            clear hwc
            have hz0 : (wantS kind ws 0).size ≤ 400 := by rw [hw0.out]; split <;> decide
            go_wp2_with (fail)
            go_loopw [5, 6] (fun v i wr => ∃ k : Nat, k ≤ N ∧ v = .string (wantS kind ws k) ∧ i = .int .i64 (k : Int) ∧ (∀ j, j < k → (ws.getD j eb0).size ≤ 400) ∧ (wantS kind ws k).size ≤ 400 ∧ Below W1.heap.size W1 wr) (fun _ i _ => N - (RowKit.intOf i).toNat)
            case atStart => exact ⟨0, Nat.zero_le _, rfl, rfl, fun _ h => absurd h (Nat.not_lt_zero _), hz0, B4⟩
            case round =>
              clear B4 q0 q1 hz0
              obtain ⟨k, hk, rfl, rfl, hsm4, hX4, Bk⟩ := hrel
              have q1 := kP1.out _ Bk
              by_cases hkl : k < N
              · have hkI : (k : Int) < (N : Int) := by omega
                obtain ⟨s, hs, hs2, hsm⟩ := hgd.out k hkl
                obtain ⟨bw, ow, rfl, hck⟩ := kW.out _ Bk k s hs
                have hsu := hwS.out k
                rw [hs2] at hsu
                have hss := hsz s hsm
                obtain ⟨X, hX⟩ : ∃ X, wantS kind ws k = X := ⟨_, rfl⟩
                rw [hX] at hsu hX4 ⊢
                obtain ⟨Y, hY⟩ : ∃ Y, wantS kind ws (k + 1) = Y := ⟨_, rfl⟩
                rw [hY] at hsu
                replace hsu := hid hsu
                replace hsm4 := hid hsm4
                replace hX := hid hX
                replace hY := hid hY
                replace hs2 := hid hs2
                by_cases k0 : 0 < k
                · have k0I : (0 : Int) < (k : Int) := by omega
                  have hYe : X ++ ⟨#[32]⟩ ++ s = Y := by rw [hsu.out, if_pos k0]
                  have hYs : Y.size = X.size + 1 + s.size := by rw [← hYe, ByteArray.size_append, ByteArray.size_append]; rfl
                  clear hsu
                  go_upto_region 12 with (fail)
                  try rw [hYe]
                  clear hYe
                  by_cases h4 : 400 < Y.size
                  · have h4I : (400 : Int) < (Y.size : Int) := by omega
                    clear hYs
                    go_wp2_with (fail)
                    refine (cK.out _ Bk).mono ?_
                    rintro r w9 ⟨rfl, b9⟩
                    have BZ := hB0.trans ((Bk.trans (b9.mono Bk.size)).mono hz1)
                    go_wp2_with (fail)
                    go_ret
                    exact ⟨rfl, BZ⟩
                  · have h4I : ¬ (400 : Int) < (Y.size : Int) := by omega
                    have hs4 : s.size ≤ 400 := by omega
                    have hsm5 : ∀ j, j < k + 1 → (ws.getD j eb0).size ≤ 400 := fun j hj => by
                      by_cases hjk : j < k
                      · exact hsm4.out j hjk
                      · obtain rfl : j = k := by omega
                        rw [hs2.out]; exact hs4
                    replace hsm5 := hid hsm5
                    clear hYs hs4 hsm4
                    go_wp2_with (fail)
                    exact ⟨⟨k + 1, by omega, by rw [hY.out], by go_num, hsm5.out, by rw [hY.out]; omega, Bk⟩, by simp [RowKit.intOf]; omega⟩
                · have k0I : ¬ (0 : Int) < (k : Int) := by omega
                  have hYe : X ++ s = Y := by rw [hsu.out, if_neg k0]
                  have hYs : Y.size = X.size + s.size := by rw [← hYe, ByteArray.size_append]
                  clear hsu
                  go_upto_region 12 with (fail)
                  try rw [hYe]
                  clear hYe
                  by_cases h4 : 400 < Y.size
                  · have h4I : (400 : Int) < (Y.size : Int) := by omega
                    clear hYs
                    go_wp2_with (fail)
                    refine (cK.out _ Bk).mono ?_
                    rintro r w9 ⟨rfl, b9⟩
                    have BZ := hB0.trans ((Bk.trans (b9.mono Bk.size)).mono hz1)
                    go_wp2_with (fail)
                    go_ret
                    exact ⟨rfl, BZ⟩
                  · have h4I : ¬ (400 : Int) < (Y.size : Int) := by omega
                    have hs4 : s.size ≤ 400 := by omega
                    have hsm5 : ∀ j, j < k + 1 → (ws.getD j eb0).size ≤ 400 := fun j hj => by
                      by_cases hjk : j < k
                      · exact hsm4.out j hjk
                      · obtain rfl : j = k := by omega
                        rw [hs2.out]; exact hs4
                    replace hsm5 := hid hsm5
                    clear hYs hs4 hsm4
                    go_wp2_with (fail)
                    exact ⟨⟨k + 1, by omega, by rw [hY.out], by go_num, hsm5.out, by rw [hY.out]; omega, Bk⟩, by simp [RowKit.intOf]; omega⟩
              · obtain rfl : k = N := by omega
                clear hwS hw0 hgd kW
                have hs1 : ∀ s ∈ ws, s.size ≤ 400 := fun s hs => by obtain ⟨i, hi, rfl⟩ := hmem.out s hs; exact hsm4 i hi
                have hok : ∀ s ∈ ws, okW s := fun s hs => okW_of (hgw.out s hs) (hs1 s hs)
                have hg1 := hg.out
                have hN1 := hN.out
                have cO := cOf.out _ Bk (fun s hs => (hok s hs).2) (by omega) (by constructor <;> omega) (by constructor <;> omega)
                have cR9 := fun W h => cRf.out W h (fun s hs => (hok s hs).2) (by omega)
                have hlin := @text_lines kind a c d e ws hk3 hok hne
                have htx := @ofL_text kind a c d e ws hk3 hok hne
                have hnon := @text_none kind a c d e ws hk3 hne
                have hin := @ofL_in kind a c d e ws (fun s hs => (hok s hs).2)
                rw [hN1] at htx
                obtain ⟨L, hL⟩ : ∃ y, ofL kind ws a c d e = y := ⟨_, rfl⟩
                rw [hL] at cO hlin htx hnon hin
                obtain ⟨IL, hIL⟩ : ∃ y, itemsOf kind e d ws = y := ⟨_, rfl⟩
                rw [hIL] at hlin htx hnon cR9
                obtain ⟨Y, hY⟩ : ∃ y, wantS kind ws k = y := ⟨_, rfl⟩
                rw [hY] at htx hX4 ⊢
                clear hY hIL hL hs1 hok hg1 hN1 hsm4 cOf cRf hmem hgw hg
                replace cO := hid cO
                replace cR9 := hid cR9
                replace hlin := hid hlin
                replace htx := hid htx
                replace hnon := hid hnon
                replace hin := hid hin
                have q0 := kP0.out _ Bk
                obtain ⟨s0, s1, s2, s3, s4⟩ := kS.out _ Bk
                go_wp2_with (fail)
                refine cO.out.mono ?_
                rintro r w5 ⟨v5, rfl, L5, b5⟩
                have B5 := Bk.trans (b5.mono Bk.size)
                clear q0 q1 s0 s1 s2 s3 s4 b5 Bk cO
                have q0 := kP0.out _ B5
                have q1 := kP1.out _ B5
                obtain ⟨s0, s1, s2, s3, s4⟩ := kS.out _ B5
                obtain ⟨p5, c5, rfl, hm5⟩ := L5.shape
                unfold maxLen at hm5
                have cR := hid (cR9.out _ B5)
                go_wp2_with (fail)
                refine cR.out.mono ?_
                rintro r w6 ⟨v6, rfl, o6, b6⟩
                have B6 := B5.trans (b6.mono B5.size)
                have L6 := L5.kept (Kept.of_below b6 0)
                obtain ⟨p6, c6, rfl, -, -⟩ := owns_shape o6
                clear q0 q1 s0 s1 s2 s3 s4 b6 B5 L5 cR cR9 o6
                by_cases h6 : 600 < IL.length
                · have h6I : (600 : Int) < (IL.length : Int) := by omega
                  obtain rfl := hnon.out h6
                  clear hin hlin htx hnon
                  go_wp2_with (fail)
                  refine (cK.out _ B6).mono ?_
                  rintro r w9 ⟨rfl, b9⟩
                  have BZ := hB0.trans ((B6.trans (b9.mono B6.size)).mono hz1)
                  go_wp2_with (fail)
                  go_ret
                  exact ⟨rfl, BZ⟩
                · have h6I : ¬ (600 : Int) < (IL.length : Int) := by omega
                  obtain ⟨hLn, hat⟩ := hlin.out (by omega)
                  have htx1 := htx.out (by omega)
                  have cT := LTextL_any _ L w6 L6 hin.out (by rw [htx1, size_toList]; omega) (hTW.out _ B6)
                  rw [htx1, show (⟨(Y.data.toList).toArray⟩ : ByteArray) = Y from ba_ext (by simp)] at cT
                  have hL0 : 0 < L.length := List.length_pos_iff.2 hLn
                  obtain ⟨M, hM⟩ : ∃ m, L.length = m := ⟨_, rfl⟩
                  rw [hM] at hat cT hL0 hm5 ⊢
                  have hMb : ((M : Int) == 0) = false := by simp; omega
                  replace cT := hid cT
                  replace hat := hid hat
                  replace hM := hid hM
                  clear htx1 htx hnon hlin hin
                  go_wp2_with (fail)
                  refine cT.out.mono ?_
                  rintro r w7 ⟨rfl, b7⟩
                  have B7 := B6.trans (b7.mono B6.size)
                  have L7 := L6.kept (Kept.of_below b7 0)
                  clear b7 B6 L6 cT
                  go_wp2_with (fail)
                  go_loopw [8] (fun iv wr => ∃ i : Nat, i ≤ M ∧ iv = .int .i64 (i : Int) ∧ Below w7.heap.size w7 wr) (fun iv _ => M - (RowKit.intOf iv).toNat)
                  case atStart => exact ⟨0, Nat.zero_le _, rfl, Below.refl _ _⟩
                  case round =>
                    obtain ⟨i, hi, rfl, Bi⟩ := hrel
                    have BW1 := B7.trans (Bi.mono B7.size)
                    by_cases hiM : i < M
                    · have hiMI : (i : Int) < (M : Int) := by omega
                      obtain ⟨x, hx, x1, x2, x3, x4⟩ := hat.out i hiM
                      obtain ⟨bl, ol, cl, hpe, hc⟩ := (L7.kept (Kept.of_below Bi 0)).open hLn
                      obtain ⟨r0, r1, r2, -, pp, pm, r4, -⟩ := hc i x hx
                      rw [x1] at r0
                      rw [x2] at r1
                      rw [x3] at r2
                      obtain ⟨fb, hfb⟩ : ∃ f, decide (i = 0) = f := ⟨_, rfl⟩
                      obtain ⟨lb, hlb⟩ : ∃ f, decide (i + 1 = M) = f := ⟨_, rfl⟩
                      obtain ⟨pn, hpn⟩ : ∃ f, x.ps.length = f := ⟨_, rfl⟩
                      rw [hfb] at r1
                      rw [hlb] at r2
                      rw [hpn] at r4 x4
                      have hfI : ((i : Int) == 0) = fb := by rw [← hfb, Bool.eq_iff_iff]; simp
                      have hlI : ((i : Int) + 1 == (M : Int)) = lb := by rw [← hlb, Bool.eq_iff_iff]; simp; omega
                      have hpI : ((pn : Int) == 0) = false := by simp; exact x4
                      obtain rfl := (Value.slice.inj hpe).1
                      have rk := kP0.out _ BW1
                      have w1 : IntKind.i64.wrap ((i : Int) + 1) = (i : Int) + 1 := by rw [IntKind.wrap_i64]; omega
                      clear hfb hlb hpn hpe hc hx x1 x2 x3 x4
                      go_upto_region 22 with (fail)
                      obtain ⟨Wq, hWq⟩ : ∃ W : World, W = wr := ⟨_, rfl⟩
                      subst hWq
                      have bd : Below Wq.heap.size Wq Wq.drew := (Below.refl _ Wq).drewN 1
                      have Bd := Bi.trans (bd.mono Bi.size)
                      have hst : (fun V => V.cell? ⟨bl, ol + i * 5, none⟩ = some (.int .i64 kind) ∧ V.cell? ⟨bl, ol + i * 5 + 1, none⟩ = some (.bool fb) ∧ V.cell? ⟨bl, ol + i * 5 + 2, none⟩ = some (.bool lb) ∧ V.cell? ⟨bl, ol + i * 5 + 4, none⟩ = some (.slice pp pn pm) ∧ V.cell? ⟨n₀, 0, none⟩ = some (.int .i64 kind)) Wq.drew := ⟨r0, r1, r2, r4, rk⟩
                      clear r0 r1 r2 r4 rk bd Bi BW1
                      refine wp_region_held_drew (S := (fun V => V.cell? ⟨bl, ol + i * 5, none⟩ = some (.int .i64 kind) ∧ V.cell? ⟨bl, ol + i * 5 + 1, none⟩ = some (.bool fb) ∧ V.cell? ⟨bl, ol + i * 5 + 2, none⟩ = some (.bool lb) ∧ V.cell? ⟨bl, ol + i * 5 + 4, none⟩ = some (.slice pp pn pm) ∧ V.cell? ⟨n₀, 0, none⟩ = some (.int .i64 kind))) (by kernel_rfl) hst (fun hHeld => ?_)
                      generalize Wq.drew = W5 at *
                      refine tkH 0 (some 84) ?_ rfl (Or.inl ⟨by rfl, ?_⟩) ?_; rotate_left
                      · intro w hSw; (try dsimp only at hSw); go_simp <;> with_reducible rfl
                      try simp only [Act.put, aS, aZ, aC]
                      refine tkH 1 (some 85) ?_ rfl (Or.inl ⟨by rfl, ?_⟩) ?_; rotate_left
                      · intro w hSw; (try dsimp only at hSw); go_simp <;> with_reducible rfl
                      try simp only [Act.put, aS, aZ, aC]
                      refine tkH 2 (some 86) ?_ rfl (Or.inl ⟨by rfl, ?_⟩) ?_; rotate_left
                      · intro w hSw; (try dsimp only at hSw); go_simp <;> with_reducible rfl
                      try simp only [Act.put, aS, aZ, aC]
                      refine tkH 3 (some 87) ?_ rfl (Or.inl ⟨by rfl, ?_⟩) ?_; rotate_left
                      · intro w hSw; (try dsimp only at hSw); go_simp <;> with_reducible rfl
                      try simp only [Act.put, aS, aZ, aC]
                      refine tkH 4 (some 88) ?_ rfl (Or.inl ⟨by rfl, ?_⟩) ?_; rotate_left
                      · intro w hSw; (try dsimp only at hSw); have h9 := hSw.1; go_simp <;> with_reducible rfl
                      try simp only [Act.put, aS, aZ, aC]
                      refine tkH 5 (some 89) ?_ rfl (Or.inl ⟨by rfl, ?_⟩) ?_; rotate_left
                      · intro w hSw; (try dsimp only at hSw); go_simp <;> with_reducible rfl
                      try simp only [Act.put, aS, aZ, aC]
                      refine tkH 6 (some 90) ?_ rfl (Or.inl ⟨by rfl, ?_⟩) ?_; rotate_left
                      · intro w hSw; (try dsimp only at hSw); have h9 := hSw.2.2.2.2; go_simp <;> with_reducible rfl
                      try simp only [Act.put, aS, aZ, aC]
                      refine tkH 7 (some 91) ?_ rfl (Or.inl ⟨by rfl, ?_⟩) ?_; rotate_left
                      · intro w hSw; (try dsimp only at hSw); go_simp <;> with_reducible rfl
                      try simp only [Act.put, aS, aZ, aC]
                      refine tkH 8 (some 92) ?_ rfl (Or.inl ⟨by rfl, ?_⟩) ?_; rotate_left
                      · intro w hSw; (try dsimp only at hSw); go_simp <;> with_reducible rfl
                      try simp only [Act.put, aS, aZ, aC]
                      refine tkH 9 (some 93) ?_ rfl (Or.inl ⟨by rfl, ?_⟩) ?_; rotate_left
                      · intro w hSw; (try dsimp only at hSw); go_simp <;> with_reducible rfl
                      try simp only [Act.put, aS, aZ, aC]
                      refine tkH 10 (some 94) ?_ rfl (Or.inl ⟨by rfl, ?_⟩) ?_; rotate_left
                      · intro w hSw; (try dsimp only at hSw); go_simp <;> with_reducible rfl
                      try simp only [Act.put, aS, aZ, aC]
                      refine tkH 11 (some 95) ?_ rfl (Or.inl ⟨by rfl, ?_⟩) ?_; rotate_left
                      · intro w hSw; (try dsimp only at hSw); go_simp <;> with_reducible rfl
                      try simp only [Act.put, aS, aZ, aC]
                      refine tkH 12 (some 96) ?_ rfl (Or.inl ⟨by rfl, ?_⟩) ?_; rotate_left
                      · intro w hSw; (try dsimp only at hSw); go_simp <;> with_reducible rfl
                      try simp only [Act.put, aS, aZ, aC]
                      refine tkH 13 (some 97) ?_ rfl (Or.inl ⟨by rfl, ?_⟩) ?_; rotate_left
                      · intro w hSw; (try dsimp only at hSw); have h9 := hSw.2.1; go_simp <;> with_reducible rfl
                      try simp only [Act.put, aS, aZ, aC]
                      refine tkH 14 (some 98) ?_ rfl (Or.inl ⟨by rfl, ?_⟩) ?_; rotate_left
                      · intro w hSw; (try dsimp only at hSw); go_simp <;> with_reducible rfl
                      try simp only [Act.put, aS, aZ, aC]
                      refine tkH 15 (some 99) ?_ rfl (Or.inl ⟨by rfl, ?_⟩) ?_; rotate_left
                      · intro w hSw; (try dsimp only at hSw); go_simp <;> with_reducible rfl
                      try simp only [Act.put, aS, aZ, aC]
                      refine tkH 16 (some 100) ?_ rfl (Or.inl ⟨by rfl, ?_⟩) ?_; rotate_left
                      · intro w hSw; (try dsimp only at hSw); go_simp <;> with_reducible rfl
                      try simp only [Act.put, aS, aZ, aC]
                      refine tkH 17 (some 101) ?_ rfl (Or.inl ⟨by rfl, ?_⟩) ?_; rotate_left
                      · intro w hSw; (try dsimp only at hSw); go_simp <;> with_reducible rfl
                      try simp only [Act.put, aS, aZ, aC]
                      refine tkH 18 (some 102) ?_ rfl (Or.inl ⟨by rfl, ?_⟩) ?_; rotate_left
                      · intro w hSw; (try dsimp only at hSw); go_simp <;> with_reducible rfl
                      try simp only [Act.put, aS, aZ, aC]
                      refine tkH 19 (some 103) ?_ rfl (Or.inl ⟨by rfl, ?_⟩) ?_; rotate_left
                      · intro w hSw; (try dsimp only at hSw); go_simp <;> with_reducible rfl
                      try simp only [Act.put, aS, aZ, aC]
                      refine tkH 20 (some 104) ?_ rfl (Or.inl ⟨by rfl, ?_⟩) ?_; rotate_left
                      · intro w hSw; (try dsimp only at hSw); go_simp <;> with_reducible rfl
                      try simp only [Act.put, aS, aZ, aC]
                      refine tkH 21 (some 105) ?_ rfl (Or.inl ⟨by rfl, ?_⟩) ?_; rotate_left
                      · intro w hSw; (try dsimp only at hSw); go_simp <;> with_reducible rfl
                      try simp only [Act.put, aS, aZ, aC]
                      refine tkH 22 (some 106) ?_ rfl (Or.inl ⟨by rfl, ?_⟩) ?_; rotate_left
                      · intro w hSw; (try dsimp only at hSw); go_simp <;> with_reducible rfl
                      try simp only [Act.put, aS, aZ, aC]
                      refine tkH 23 (some 107) ?_ rfl (Or.inl ⟨by rfl, ?_⟩) ?_; rotate_left
                      · intro w hSw; (try dsimp only at hSw); have h9 := hSw.2.2.1; go_simp <;> with_reducible rfl
                      try simp only [Act.put, aS, aZ, aC]
                      refine tkH 24 (some 108) ?_ rfl (Or.inl ⟨by rfl, ?_⟩) ?_; rotate_left
                      · intro w hSw; (try dsimp only at hSw); go_simp <;> with_reducible rfl
                      try simp only [Act.put, aS, aZ, aC]
                      refine tkH 25 (some 109) ?_ rfl (Or.inl ⟨by rfl, ?_⟩) ?_; rotate_left
                      · intro w hSw; (try dsimp only at hSw); go_simp <;> with_reducible rfl
                      try simp only [Act.put, aS, aZ, aC]
                      refine tkH 26 (some 110) ?_ rfl (Or.inl ⟨by rfl, ?_⟩) ?_; rotate_left
                      · intro w hSw; (try dsimp only at hSw); go_simp <;> with_reducible rfl
                      try simp only [Act.put, aS, aZ, aC]
                      refine wpAnyH_ready (rs := [27]) (by kernel_rfl) (by simp) ?_
                      refine AllReadyH.cons (o := ⟨some 111, _, _, _, _, _⟩) rfl (fun K hK => ?_) AllReadyH.nil
                      go_simp
                      refine hK.out _ _ (hHeld) (fun hHeld => ?_)
                      clear hK K
                      try simp only [Act.put, aS, aZ, aC]
                      refine tkH 28 (some 112) ?_ rfl (Or.inl ⟨by rfl, ?_⟩) ?_; rotate_left
                      · intro w hSw; (try dsimp only at hSw); go_simp <;> with_reducible rfl
                      try simp only [Act.put, aS, aZ, aC]
                      refine tkH 29 (some 113) ?_ rfl (Or.inl ⟨by rfl, ?_⟩) ?_; rotate_left
                      · intro w hSw; (try dsimp only at hSw); go_simp <;> with_reducible rfl
                      try simp only [Act.put, aS, aZ, aC]
                      refine tkH 30 (some 114) ?_ rfl (Or.inl ⟨by rfl, ?_⟩) ?_; rotate_left
                      · intro w hSw; (try dsimp only at hSw); go_simp <;> with_reducible rfl
                      try simp only [Act.put, aS, aZ, aC]
                      refine tkH 31 (some 115) ?_ rfl (Or.inl ⟨by rfl, ?_⟩) ?_; rotate_left
                      · intro w hSw; (try dsimp only at hSw); go_simp <;> with_reducible rfl
                      try simp only [Act.put, aS, aZ, aC]
                      refine tkH 32 (some 116) ?_ rfl (Or.inl ⟨by rfl, ?_⟩) ?_; rotate_left
                      · intro w hSw; (try dsimp only at hSw); go_simp <;> with_reducible rfl
                      try simp only [Act.put, aS, aZ, aC]
                      refine tkH 33 (some 117) ?_ rfl (Or.inl ⟨by rfl, ?_⟩) ?_; rotate_left
                      · intro w hSw; (try dsimp only at hSw); go_simp <;> with_reducible rfl
                      try simp only [Act.put, aS, aZ, aC]
                      refine tkH 34 (some 118) ?_ rfl (Or.inl ⟨by rfl, ?_⟩) ?_; rotate_left
                      · intro w hSw; (try dsimp only at hSw); go_simp <;> with_reducible rfl
                      try simp only [Act.put, aS, aZ, aC]
                      refine tkH 35 (some 119) ?_ rfl (Or.inl ⟨by rfl, ?_⟩) ?_; rotate_left
                      · intro w hSw; (try dsimp only at hSw); go_simp <;> with_reducible rfl
                      try simp only [Act.put, aS, aZ, aC]
                      refine tkH 36 (some 120) ?_ rfl (Or.inl ⟨by rfl, ?_⟩) ?_; rotate_left
                      · intro w hSw; (try dsimp only at hSw); have h9 := hSw.2.2.2.1; go_simp <;> with_reducible rfl
                      try simp only [Act.put, aS, aZ, aC]
                      refine wpAnyH_ready (rs := [37]) (by kernel_rfl) (by simp) ?_
                      refine AllReadyH.cons (o := ⟨some 121, _, _, _, _, _⟩) rfl (fun K hK => ?_) AllReadyH.nil
                      go_simp
                      refine hK.out _ _ (hHeld) (fun hHeld => ?_)
                      clear hK K
                      try simp only [Act.put, aS, aZ, aC]
                      refine tkH 38 (some 122) ?_ rfl (Or.inl ⟨by rfl, ?_⟩) ?_; rotate_left
                      · intro w hSw; (try dsimp only at hSw); go_simp <;> with_reducible rfl
                      try simp only [Act.put, aS, aZ, aC]
                      refine tkH 39 (some 123) ?_ rfl (Or.inl ⟨by rfl, ?_⟩) ?_; rotate_left
                      · intro w hSw; (try dsimp only at hSw); go_simp <;> with_reducible rfl
                      try simp only [Act.put, aS, aZ, aC]
                      refine wpAnyH_done (by kernel_rfl) ?_ _
                      skip
                      clear hHeld hst
                      go_wp2_with (fail)
                      exact ⟨⟨i + 1, by omega, by go_num, Bd⟩, by simp [RowKit.intOf]; omega⟩
                    · obtain rfl : i = M := by omega
                      go_wp2_with (fail)
                      refine (cK.out _ BW1).mono ?_
                      rintro r w9 ⟨rfl, b9⟩
                      have BZ := hB0.trans ((BW1.trans (b9.mono BW1.size)).mono hz1)
                      go_wp2_with (fail)
                      go_ret
                      exact ⟨rfl, BZ⟩
end Go.Proofs.YtempicociampoaaGreatDoor
