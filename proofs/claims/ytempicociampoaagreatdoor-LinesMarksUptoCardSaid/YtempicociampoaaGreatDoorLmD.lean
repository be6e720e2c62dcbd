/- The walk of LinesMarks (printed by gen_lmd.py). -/
import Derived.Test.YtempicociampoaaGreatDoorJ24
import Derived.Test.YtempicociampoaaGreatDoorLqC
import Derived.Test.YtempicociampoaaGreatDoorJ9
import Derived.Test.YtempicociampoaaGreatDoorMkX
namespace Go.Proofs.YtempicociampoaaGreatDoor
open Go.RowKit Go.Shelf Go.Lib

theorem txt_ne {T : ByteArray} (h : T.size ≠ 0) : T.toList.isEmpty = false := by
 rw [empty8]; exact decide_eq_false fun h9 => h (by rw [← size_toList, h9]; rfl)
set_option maxRecDepth 100000 in
set_option maxHeartbeats 8000000 in
theorem LinesMarks_any (kind : Int) (wv : Value) (ws : List ByteArray) (a b c d e : Int) (w : World) (hsl : Sl w 1 encS wv ws) (hsz : ∀ s ∈ ws, s.size ≤ 2000000) (ha : w64 a) (hT : Tabs w) (hR : Asp w) :
  Calls Tryz.prog 5 #[.agg #[.int .i64 kind, wv], .agg #[.int .i64 a, .int .i64 b, .int .i64 c, .int .i64 d, .int .i64 e]] w fun r w' => r = .returned (.bool true) ∧ Below w.heap.size w w' := by
 obtain ⟨pw, cw, rfl, hmN⟩ := hsl.shape
 unfold maxLen at hmN
 obtain ⟨N, hN⟩ : ∃ n, ws.length = n := ⟨_, rfl⟩
 rw [hN] at hsl hmN ⊢
 have gP := (Kept.alloc 0 (w.alloc (.cells #[.int .i64 kind, .slice pw N cw] 24)) (.cells #[.int .i64 a, .int .i64 b, .int .i64 c, .int .i64 d, .int .i64 e] 26)).same _ _ (World.alloc_heap_new w (.cells #[.int .i64 kind, .slice pw N cw] 24)) (.inl rfl)
 have gS := World.alloc_heap_new (w.alloc (.cells #[.int .i64 kind, .slice pw N cw] 24)) (.cells #[.int .i64 a, .int .i64 b, .int .i64 c, .int .i64 d, .int .i64 e] 26)
 have hB0 := ((Below.refl w.heap.size w).alloc (Nat.le_refl _) (.cells #[.int .i64 kind, .slice pw N cw] 24)).alloc (by simp) (.cells #[.int .i64 a, .int .i64 b, .int .i64 c, .int .i64 d, .int .i64 e] 26)
 obtain ⟨n₀, hn₀⟩ : ∃ n, w.heap.size = n := ⟨_, rfl⟩
 rw [World.size_alloc] at gS
 obtain ⟨W1, hW1⟩ : ∃ W : World, W = (w.alloc (.cells #[.int .i64 kind, .slice pw N cw] 24)).alloc (.cells #[.int .i64 a, .int .i64 b, .int .i64 c, .int .i64 d, .int .i64 e] 26) := ⟨_, rfl⟩
 rw [← hW1, hn₀] at gP gS hB0
 rw [hn₀]
 have hz1 : n₀ ≤ W1.heap.size := by have := hB0.size; omega
 have kS := hid (fun W (h : Below W1.heap.size W1 W) => (show W.cell? ⟨n₀ + 1, 0, none⟩ = some (.int .i64 a) ∧ W.cell? ⟨n₀ + 1, 1, none⟩ = some (.int .i64 b) ∧ W.cell? ⟨n₀ + 1, 2, none⟩ = some (.int .i64 c) ∧ W.cell? ⟨n₀ + 1, 3, none⟩ = some (.int .i64 d) ∧ W.cell? ⟨n₀ + 1, 4, none⟩ = some (.int .i64 e) from ⟨cell_blk (i := 0) ((Kept.of_below h 0).same _ _ gS (.inl rfl)) rfl, cell_blk (i := 1) ((Kept.of_below h 0).same _ _ gS (.inl rfl)) rfl, cell_blk (i := 2) ((Kept.of_below h 0).same _ _ gS (.inl rfl)) rfl, cell_blk (i := 3) ((Kept.of_below h 0).same _ _ gS (.inl rfl)) rfl, cell_blk (i := 4) ((Kept.of_below h 0).same _ _ gS (.inl rfl)) rfl⟩))
 have kP0 := hid (fun W (h : Below W1.heap.size W1 W) => (show W.cell? ⟨n₀, 0, none⟩ = some (.int .i64 kind) from cell_blk (i := 0) ((Kept.of_below h 0).same _ _ gP (.inl rfl)) rfl))
 have kP1 := hid (fun W (h : Below W1.heap.size W1 W) => (show W.cell? ⟨n₀, 1, none⟩ = some (.slice pw N cw) from cell_blk (i := 1) ((Kept.of_below h 0).same _ _ gP (.inl rfl)) rfl))
 have hTW := hid (fun W (h : Below W1.heap.size W1 W) => hT.below (hn₀ ▸ hB0.trans (h.mono hz1)))
 have hRW := hid (fun W (h : Below W1.heap.size W1 W) => hR.below (hn₀ ▸ hB0.trans (h.mono hz1)))
 have hWs := hid (fun W (h : Below W1.heap.size W1 W) => (Kept.of_below (hn₀ ▸ hB0.trans (h.mono hz1) : Below w.heap.size w W) 0).sl hsl)
 have cK := hid (fun W (h : Below W1.heap.size W1 W) => wakes19 W (hTW.out W h) (hRW.out W h))
 have cG := hid (rGoodS_any a b c d e W1)
 obtain ⟨gb, hgb⟩ : ∃ x, goodS a b c d e = x := ⟨_, rfl⟩
 rw [hgb] at cG
 have cH := hid (fun W (h : Below W1.heap.size W1 W) (v : Value) (hv : Sl W 2 encPt v [(kind, .slice pw N cw, ws)]) => rGood_any v [(kind, .slice pw N cw, ws)] W hv (fun x hx => by obtain rfl := List.mem_singleton.1 hx; exact hWs.out W h) (fun x hx => by obtain rfl := List.mem_singleton.1 hx; exact hsz))
 obtain ⟨hb, hhb⟩ : ∃ x, allG [(kind, Value.slice pw N cw, ws)] = x := ⟨_, rfl⟩
 rw [hhb] at cH
 have hgood : hb = true → (∀ s ∈ ws, goodW s.data.toList) ∧ (kind ≠ 4 → (1 ≤ kind ∧ kind ≤ 3) ∧ ws ≠ []) := fun h => by
  rw [h] at hhb
  unfold allG goodB at hhb
  simp only [List.all_cons, List.all_nil, Bool.and_true, Bool.and_eq_true] at hhb
  refine ⟨fun s hs => of_decide_eq_true (List.all_eq_true.1 hhb.1 s hs), fun h4 => ?_⟩
  have hk := hhb.2
  unfold kindB at hk
  rw [if_neg h4] at hk
  split at hk
  ·rename_i h23
   exact ⟨by omega, fun h9 => by rw [h9] at hk; cases hk⟩
  ·split at hk
   ·rename_i h1
    exact ⟨by omega, fun h9 => by rw [h9] at hk; cases hk⟩
   ·cases hk
 replace hgood := hid hgood
 have cOf := hid (fun W (h : Below W1.heap.size W1 W) (hn : ws.length ≤ 300) (hd : w64 d) (he : w64 e) => LOf_any kind (.slice pw N cw) ws a b c d e W hn hsz (hWs.out W h) ha hd he (hTW.out W h) (hRW.out W h))
 have cRf := hid (fun W (h : Below W1.heap.size W1 W) (hn : ws.length ≤ 300) => ROf_any kind (.slice pw N cw) ws a b c d e W hn hsz (hWs.out W h))
 have s0 := kS.out _ (Below.refl _ _)
 obtain ⟨s0, s1, s2, s3, s4⟩ := s0
 clear hhb hsl gP gS
 replace hN := hid hN
 replace hgb := hid hgb
 go_enter Tryz.func5, Tryz.ntmps5
 go_upto_region 1 with (fail)
 rw [← hW1]
 clear hW1
 try simp only [hn₀]
 go_wp2_with (fail)
 refine cG.out.mono ?_
 rintro r w2 ⟨rfl, b2⟩
 have B2 : Below W1.heap.size W1 w2 := b2
 clear s0 s1 s2 s3 s4 b2 cG
 have q0 := kP0.out _ B2
 have q1 := kP1.out _ B2
 cases gb with
 | false =>
  go_wp2_with (fail)
  refine (cK.out _ B2).mono ?_
  rintro r w9 ⟨rfl, b9⟩
  have BZ := hB0.trans ((B2.trans (b9.mono B2.size)).mono hz1)
  go_wp2_with (fail)
  go_ret
  exact ⟨rfl, BZ⟩
 | true =>
  have hg := of_decide_eq_true (show decide _ = true from hgb.out)
  replace hg := hid hg
  have gP := World.alloc_heap_new w2 (.cells #[.int .i64 kind, .slice pw N cw] 24)
  have B3 := B2.alloc B2.size (.cells #[.int .i64 kind, .slice pw N cw] 24)
  have cH1 := hid (cH.out _ B3 (.slice (some ⟨w2.heap.size, 0, none⟩) 1 1) (sl_of_block (l := [(kind, Value.slice pw N cw, ws)]) (cap := 1) gP rfl (fun _ _ => rfl) (Nat.le_refl _) (by decide)))
  clear gP cH
  go_wp2_with (fail)
  refine cH1.out.mono ?_
  rintro r w4 ⟨rfl, b4⟩
  have B4 := B3.trans (b4.mono B3.size)
  clear cH1 B3 b4 B2 q0 q1
  have q0 := kP0.out _ B4
  have q1 := kP1.out _ B4
  cases hb with
  | false =>
   go_wp2_with (fail)
   refine (cK.out _ B4).mono ?_
   rintro r w9 ⟨rfl, b9⟩
   have BZ := hB0.trans ((B4.trans (b9.mono B4.size)).mono hz1)
   go_wp2_with (fail)
   go_ret
   exact ⟨rfl, BZ⟩
  | true =>
   obtain ⟨hgw, hkk⟩ := hgood.out rfl
   clear hgood
   replace hgw := hid hgw
   replace hkk := hid hkk
   by_cases h60 : 60 < N
   ·have h60I : (60 : Int) < (N : Int) := by omega
    go_wp2_with (fail)
    refine (cK.out _ B4).mono ?_
    rintro r w9 ⟨rfl, b9⟩
    have BZ := hB0.trans ((B4.trans (b9.mono B4.size)).mono hz1)
    go_wp2_with (fail)
    go_ret
    exact ⟨rfl, BZ⟩
   ·have h60I : ¬ (60 : Int) < (N : Int) := by omega
    have hN1 := hN.out
    have hg1 := hg.out
    have cO9 := hid (fun W h => cOf.out W h (by omega) (by constructor <;> omega) (by constructor <;> omega))
    have cR := hid (cRf.out _ B4 (by omega))
    have hmk := hid (fun (hk : kind ≠ 4) (h6 : (itemsOf kind e d ws).length ≤ 600) => @marks_at kind a c d e ws (hkk.out hk).1 (fun s hs h9 => (hgw.out s hs).1 (List.eq_nil_of_length_eq_zero (by rw [size_toList]; exact h9))) (hkk.out hk).2 (by omega) h6)
    have ho4 := hid (fun (hk : kind = 4) => (show ofL kind ws a c d e = [⟨4, false, false, false, []⟩] by unfold ofL; rw [if_pos hk]))
    obtain ⟨IL, hIL⟩ : ∃ y, itemsOf kind e d ws = y := ⟨_, rfl⟩
    obtain ⟨L, hL⟩ : ∃ y, ofL kind ws a c d e = y := ⟨_, rfl⟩
    rw [hIL] at cR hmk
    rw [hL] at cO9 hmk ho4
    clear hIL hL hN1 hg1 cOf cRf hgw hkk
    obtain ⟨s0, s1, s2, s3, s4⟩ := kS.out _ B4
    go_wp2_with (fail)
    refine cR.out.mono ?_
    rintro r w5 ⟨v5, rfl, o5, b5⟩
    have B5 := B4.trans (b5.mono B4.size)
    obtain ⟨p5, c5, rfl, -, -⟩ := owns_shape o5
    clear q0 q1 s0 s1 s2 s3 s4 b5 B4 cR o5
    by_cases h6 : 600 < IL.length
    ·have h6I : (600 : Int) < (IL.length : Int) := by omega
     go_wp2_with (fail)
     refine (cK.out _ B5).mono ?_
     rintro r w9 ⟨rfl, b9⟩
     have BZ := hB0.trans ((B5.trans (b9.mono B5.size)).mono hz1)
     go_wp2_with (fail)
     go_ret
     exact ⟨rfl, BZ⟩
    ·have h6I : ¬ (600 : Int) < (IL.length : Int) := by omega
     have q0 := kP0.out _ B5
     have q1 := kP1.out _ B5
     obtain ⟨s0, s1, s2, s3, s4⟩ := kS.out _ B5
     have cO := hid (cO9.out _ B5)
     have hmk2 := hid (fun hk => hmk.out hk (by omega))
     clear hmk cO9
     go_wp2_with (fail)
     refine cO.out.mono ?_
     rintro r w6 ⟨v6, rfl, L6, b6⟩
     have B6 := B5.trans (b6.mono B5.size)
     clear q0 q1 s0 s1 s2 s3 s4 b6 B5 cO h6 h6I
     have q0 := kP0.out _ B6
     by_cases k4 : kind = 4
     ·have hL := ho4.out k4
      subst k4
      obtain ⟨bl, ol, cl, rfl, hc⟩ := L6.open (by rw [hL]; simp)
      obtain ⟨r0, r1, r2, r3, pp, pm, r4, -⟩ := hc 0 _ (by rw [hL]; rfl)
      rw [hL]
      dsimp only at r0 r1 r2 r3 r4
      simp only [Nat.zero_mul, Nat.add_zero, List.length_nil] at r0 r1 r2 r3 r4
      rw [show ([⟨4, false, false, false, []⟩] : List Ln).length = 1 from rfl]
      clear hc L6 hmk2 ho4
      go_wp2_with (fail)
      refine (cK.out _ B6).mono ?_
      rintro r w9 ⟨rfl, b9⟩
      have BZ := hB0.trans ((B6.trans (b9.mono B6.size)).mono hz1)
      go_wp2_with (fail)
      go_ret
      exact ⟨rfl, BZ⟩
     ·have hk4b : (kind == 4) = false := by simpa using k4
      obtain ⟨hLn, hat⟩ := hmk2.out k4
      have hL0 : 0 < L.length := List.length_pos_iff.2 hLn
      obtain ⟨p6, c6, rfl, hm6⟩ := L6.shape
      unfold maxLen at hm6
      obtain ⟨M, hM⟩ : ∃ m, L.length = m := ⟨_, rfl⟩
      rw [hM] at hat hL0 hm6 ⊢
      replace hat := hid hat
      replace hM := hid hM
      clear hmk2 ho4
      go_wp2_with (fail)
      go_loopw [6] (fun iv wr => ∃ i : Nat, i ≤ M ∧ iv = .int .i64 (i : Int) ∧ Below w6.heap.size w6 wr) (fun iv _ => M - (RowKit.intOf iv).toNat)
      case atStart => exact ⟨0, Nat.zero_le _, rfl, Below.refl _ _⟩
      case round =>
       clear q0
       obtain ⟨i, hi, rfl, Bi⟩ := hrel
       have BW1 := B6.trans (Bi.mono B6.size)
       by_cases hiM : i < M
       ·have hiMI : (i : Int) < (M : Int) := by omega
        obtain ⟨x, hx, ⟨T, R, x1, x2⟩, x3⟩ := hat.out i hiM
        have kL := hid (fun W (h : Below w6.heap.size w6 W) => (L6.kept (Kept.of_below h 0)).open hLn)
        obtain ⟨bl, ol, cl, hpe, hc⟩ := kL.out _ Bi
        obtain ⟨r0, r1, r2, r3, pp, pm, r4, r5⟩ := hc i x hx
        obtain rfl := (Value.slice.inj hpe).1
        obtain ⟨PS, hPS⟩ : ∃ y, x.ps = y := ⟨_, rfl⟩
        rw [hPS] at r4 r5 x1 x3
        have hps := hid r5.1
        obtain ⟨bp, op, cp, hpp, hp1, hp2, hp9⟩ := r5.1.open (by rw [x1]; simp)
        obtain ⟨rfl, -, rfl⟩ := (show pp = some ⟨bp, op, none⟩ ∧ True ∧ pm = cp from ⟨(Value.slice.inj hpp).1, trivial, (Value.slice.inj hpp).2.2⟩)
        obtain ⟨m, hm⟩ : ∃ y, PS.length = y := ⟨_, rfl⟩
        have hm0 : 0 < m := by rw [← hm, x1]; simp
        have hmm : m < 9223372036854775808 := by rw [← hm]; unfold maxLen at hp2; omega
        rw [hm] at r4
        obtain ⟨p1, p2⟩ := piece_cells (hp9 0 _ (by rw [x1]; rfl))
        simp only [Nat.zero_mul, Nat.add_zero] at p1 p2
        have hmb : ((m : Int) == 0) = false := by simp; omega
        have hT0 : T.toList.isEmpty = false := txt_ne (x3 (if i = 0 ∧ kind = 1 then e else 0, T) (by rw [x1]; exact List.mem_cons_self))
        have hpt : ∀ k, k < m → ∃ U, (∀ W, Below wr.heap.size wr W → W.cell? ⟨bp, op + k * 2 + 1, none⟩ = some (.string U)) ∧ U.toList.isEmpty = false := fun k hk => by
         obtain ⟨y, hy⟩ : ∃ y, PS[k]? = some y := ⟨PS[k]'(by omega), List.getElem?_eq_getElem _⟩
         have h9 := (piece_cells (hp9 k y hy)).2
         exact ⟨y.2, fun W hW => (hW.cell (p := ⟨bp, op + k * 2 + 1, none⟩) (cell_lt h9)).trans h9, txt_ne (x3 y (List.mem_of_getElem? hy))⟩
        have hr4 := hid (fun W (hW : Below wr.heap.size wr W) => (hW.cell (p := ⟨bl, ol + i * 5 + 4, none⟩) (cell_lt r4)).trans r4)
        have hzi : IntKind.i64.wrap ((i : Int) + 1) = (i : Int) + 1 := by rw [IntKind.wrap_i64]; omega
        replace hpt := hid hpt
        have q0 := kP0.out _ BW1
        obtain ⟨s0, s1, s2, s3, s4⟩ := kS.out _ BW1
        have hse : i = 0 → kind = 3 → T = ⟨#[42]⟩ ∧ 2 ≤ m ∧ wr.cell? ⟨bp, op + 2, none⟩ = some (.int .i64 10) := fun h0 h3 => by
         obtain ⟨e1, U, q, e2⟩ := x2 h0 h3
         refine ⟨e1, by rw [← hm, x1, e2]; simp, ?_⟩
         have h9 := (piece_cells (hp9 1 (10, U) (by rw [x1, e2]; rfl))).1
         rwa [Nat.one_mul] at h9
        replace hse := hid hse
        clear hp9 hpp hc hpe hp1 hp2 r5 x2 x3 r0 r1 r2 r3
        have hmI : (0 : Int) < (m : Int) := by omega
        have hinner : ∀ V, Below wr.heap.size wr V → True := fun _ _ => trivial
        clear hinner
        by_cases hi0 : i = 0
        ·subst hi0
         by_cases k1 : kind = 1
         ·subst k1
          have hib : (((0 : Nat) : Int) == 0) = true := rfl
          have hXe : (if (0 : Nat) = 0 ∧ (1 : Int) = 1 then e else 0) = e := if_pos ⟨rfl, rfl⟩
          rw [hXe] at p1
          simp only [Nat.zero_mul, Nat.add_zero] at r4
          clear hse hXe x1
          obtain ⟨G, hG⟩ : ∃ n, wr.heap.size = n := ⟨_, rfl⟩
          have g7 := World.alloc_heap_new wr (.cells #[.int .i64 (e), .string T] 47)
          have B7 : Below wr.heap.size wr (wr.alloc (.cells #[.int .i64 (e), .string T] 47)) := (Below.refl _ wr).alloc (Nat.le_refl _) _
          rw [hG] at g7
          go_upto_region 15 with (fail)
          try simp only [hG]
          obtain ⟨W7, hW7⟩ : ∃ W : World, W = wr.alloc (.cells #[.int .i64 (e), .string T] 47) := ⟨_, rfl⟩
          rw [← hW7] at g7 B7 ⊢
          clear hW7 p1 p2 q0 s0 s1 s2 s3 s4
          have p1 : W7.cell? ⟨G, 0, none⟩ = some (.int .i64 (e)) := cell_blk (i := 0) g7 rfl
          have p2 : W7.cell? ⟨G, 1, none⟩ = some (.string T) := cell_blk (i := 1) g7 rfl
          have q0 := kP0.out _ (BW1.trans (B7.mono BW1.size))
          have r4 := hr4.out _ B7
          go_wp2_with (fail)
          have BA := B7
          clear g7 hG
          try clear p1 p2 r4 q0 q11
          go_loopw [9] (fun kv wz => ∃ k : Nat, k ≤ m ∧ kv = .int .i64 (k : Int) ∧ Below wr.heap.size wr wz) (fun kv _ => m - (RowKit.intOf kv).toNat)
          case atStart => exact ⟨0, Nat.zero_le _, rfl, BA⟩
          case round =>
           clear BA
           obtain ⟨k, hk, rfl, Bz⟩ := hrel
           have r4 := hr4.out _ Bz
           by_cases hkm : k < m
           ·have hkmI : (k : Int) < (m : Int) := by omega
            obtain ⟨U, hU, hUe⟩ := hpt.out k hkm
            have u4 := hU _ Bz
            have hzk : IntKind.i64.wrap ((k : Int) + 1) = (k : Int) + 1 := by rw [IntKind.wrap_i64]; omega
            clear hU
            go_wp2_with (fail)
            exact ⟨⟨k + 1, by omega, by go_num, Bz⟩, by simp [RowKit.intOf]; omega⟩
           ·obtain rfl : k = m := by omega
            have Bd := Bi.trans (Bz.mono Bi.size)
            go_wp2_with (fail)
            exact ⟨⟨0 + 1, by omega, by go_num, Bd⟩, by simp [RowKit.intOf]; omega⟩
         ·by_cases k3 : kind = 3
          ·subst k3
           have hib : (((0 : Nat) : Int) == 0) = true := rfl
           obtain ⟨rfl, hm2, q10⟩ := hse.out rfl rfl
           have hq10 := hid (fun W (hW : Below wr.heap.size wr W) => (hW.cell (p := ⟨bp, op + 2, none⟩) (cell_lt q10)).trans q10)
           clear q10
           have hm2I : ¬ (m : Int) < 2 := by omega
           have hm2I2 : (1 : Int) < (m : Int) := by omega
           have hXe : (if (0 : Nat) = 0 ∧ (3 : Int) = 1 then e else 0) = 0 := if_neg (by omega)
           rw [hXe] at p1
           simp only [Nat.zero_mul, Nat.add_zero] at r4
           clear hse hXe x1
           obtain ⟨G, hG⟩ : ∃ n, wr.heap.size = n := ⟨_, rfl⟩
           have g7 := World.alloc_heap_new wr (.cells #[.int .i64 (0), .string ⟨#[42]⟩] 47)
           have B7 : Below wr.heap.size wr (wr.alloc (.cells #[.int .i64 (0), .string ⟨#[42]⟩] 47)) := (Below.refl _ wr).alloc (Nat.le_refl _) _
           rw [hG] at g7
           go_upto_region 15 with (fail)
           try simp only [hG]
           obtain ⟨W7, hW7⟩ : ∃ W : World, W = wr.alloc (.cells #[.int .i64 (0), .string ⟨#[42]⟩] 47) := ⟨_, rfl⟩
           rw [← hW7] at g7 B7 ⊢
           clear hW7 p1 p2 q0 s0 s1 s2 s3 s4
           have p1 : W7.cell? ⟨G, 0, none⟩ = some (.int .i64 (0)) := cell_blk (i := 0) g7 rfl
           have p2 : W7.cell? ⟨G, 1, none⟩ = some (.string ⟨#[42]⟩) := cell_blk (i := 1) g7 rfl
           have q0 := kP0.out _ (BW1.trans (B7.mono BW1.size))
           have r4 := hr4.out _ B7
           have q11 := hq10.out _ B7
           go_wp2_with (fail)
           have BA := B7
           clear g7 hG
           try clear p1 p2 r4 q0 q11
           go_loopw [9] (fun kv wz => ∃ k : Nat, k ≤ m ∧ kv = .int .i64 (k : Int) ∧ Below wr.heap.size wr wz) (fun kv _ => m - (RowKit.intOf kv).toNat)
           case atStart => exact ⟨0, Nat.zero_le _, rfl, BA⟩
           case round =>
            clear BA
            obtain ⟨k, hk, rfl, Bz⟩ := hrel
            have r4 := hr4.out _ Bz
            by_cases hkm : k < m
            ·have hkmI : (k : Int) < (m : Int) := by omega
             obtain ⟨U, hU, hUe⟩ := hpt.out k hkm
             have u4 := hU _ Bz
             have hzk : IntKind.i64.wrap ((k : Int) + 1) = (k : Int) + 1 := by rw [IntKind.wrap_i64]; omega
             clear hU
             go_wp2_with (fail)
             exact ⟨⟨k + 1, by omega, by go_num, Bz⟩, by simp [RowKit.intOf]; omega⟩
            ·obtain rfl : k = m := by omega
             have Bd := Bi.trans (Bz.mono Bi.size)
             go_wp2_with (fail)
             exact ⟨⟨0 + 1, by omega, by go_num, Bd⟩, by simp [RowKit.intOf]; omega⟩
          ·skip
           have hib : (((0 : Nat) : Int) == 0) = true := rfl
           have hk1b : (kind == 1) = false := by simpa using k1
           have hk3b : (kind == 3) = false := by simpa using k3
           have hXe : (if (0 : Nat) = 0 ∧ kind = 1 then e else 0) = 0 := if_neg (fun h => k1 h.2)
           rw [hXe] at p1
           simp only [Nat.zero_mul, Nat.add_zero] at r4
           clear hse hXe x1
           obtain ⟨G, hG⟩ : ∃ n, wr.heap.size = n := ⟨_, rfl⟩
           have g7 := World.alloc_heap_new wr (.cells #[.int .i64 (0), .string T] 47)
           have B7 : Below wr.heap.size wr (wr.alloc (.cells #[.int .i64 (0), .string T] 47)) := (Below.refl _ wr).alloc (Nat.le_refl _) _
           rw [hG] at g7
           go_upto_region 15 with (fail)
           try simp only [hG]
           obtain ⟨W7, hW7⟩ : ∃ W : World, W = wr.alloc (.cells #[.int .i64 (0), .string T] 47) := ⟨_, rfl⟩
           rw [← hW7] at g7 B7 ⊢
           clear hW7 p1 p2 q0 s0 s1 s2 s3 s4
           have p1 : W7.cell? ⟨G, 0, none⟩ = some (.int .i64 (0)) := cell_blk (i := 0) g7 rfl
           have p2 : W7.cell? ⟨G, 1, none⟩ = some (.string T) := cell_blk (i := 1) g7 rfl
           have q0 := kP0.out _ (BW1.trans (B7.mono BW1.size))
           have r4 := hr4.out _ B7
           go_wp2_with (fail)
           have BA := B7
           clear g7 hG
           try clear p1 p2 r4 q0 q11
           go_loopw [9] (fun kv wz => ∃ k : Nat, k ≤ m ∧ kv = .int .i64 (k : Int) ∧ Below wr.heap.size wr wz) (fun kv _ => m - (RowKit.intOf kv).toNat)
           case atStart => exact ⟨0, Nat.zero_le _, rfl, BA⟩
           case round =>
            clear BA
            obtain ⟨k, hk, rfl, Bz⟩ := hrel
            have r4 := hr4.out _ Bz
            by_cases hkm : k < m
            ·have hkmI : (k : Int) < (m : Int) := by omega
             obtain ⟨U, hU, hUe⟩ := hpt.out k hkm
             have u4 := hU _ Bz
             have hzk : IntKind.i64.wrap ((k : Int) + 1) = (k : Int) + 1 := by rw [IntKind.wrap_i64]; omega
             clear hU
             go_wp2_with (fail)
             exact ⟨⟨k + 1, by omega, by go_num, Bz⟩, by simp [RowKit.intOf]; omega⟩
            ·obtain rfl : k = m := by omega
             have Bd := Bi.trans (Bz.mono Bi.size)
             go_wp2_with (fail)
             exact ⟨⟨0 + 1, by omega, by go_num, Bd⟩, by simp [RowKit.intOf]; omega⟩
        ·skip
         have hib : ((i : Int) == 0) = false := by simp; omega
         have hXe : (if i = 0 ∧ kind = 1 then e else 0) = 0 := if_neg (fun h => hi0 h.1)
         rw [hXe] at p1
         clear hse hXe x1
         obtain ⟨G, hG⟩ : ∃ n, wr.heap.size = n := ⟨_, rfl⟩
         have g7 := World.alloc_heap_new wr (.cells #[.int .i64 (0), .string T] 47)
         have B7 : Below wr.heap.size wr (wr.alloc (.cells #[.int .i64 (0), .string T] 47)) := (Below.refl _ wr).alloc (Nat.le_refl _) _
         rw [hG] at g7
         go_upto_region 15 with (fail)
         try simp only [hG]
         obtain ⟨W7, hW7⟩ : ∃ W : World, W = wr.alloc (.cells #[.int .i64 (0), .string T] 47) := ⟨_, rfl⟩
         rw [← hW7] at g7 B7 ⊢
         clear hW7 p1 p2 q0 s0 s1 s2 s3 s4
         have p1 : W7.cell? ⟨G, 0, none⟩ = some (.int .i64 (0)) := cell_blk (i := 0) g7 rfl
         have p2 : W7.cell? ⟨G, 1, none⟩ = some (.string T) := cell_blk (i := 1) g7 rfl
         have q0 := kP0.out _ (BW1.trans (B7.mono BW1.size))
         have r4 := hr4.out _ B7
         go_wp2_with (fail)
         have BA := B7
         clear g7 hG
         try clear p1 p2 r4 q0 q11
         go_loopw [9] (fun kv wz => ∃ k : Nat, k ≤ m ∧ kv = .int .i64 (k : Int) ∧ Below wr.heap.size wr wz) (fun kv _ => m - (RowKit.intOf kv).toNat)
         case atStart => exact ⟨0, Nat.zero_le _, rfl, BA⟩
         case round =>
          clear BA
          obtain ⟨k, hk, rfl, Bz⟩ := hrel
          have r4 := hr4.out _ Bz
          by_cases hkm : k < m
          ·have hkmI : (k : Int) < (m : Int) := by omega
           obtain ⟨U, hU, hUe⟩ := hpt.out k hkm
           have u4 := hU _ Bz
           have hzk : IntKind.i64.wrap ((k : Int) + 1) = (k : Int) + 1 := by rw [IntKind.wrap_i64]; omega
           clear hU
           go_wp2_with (fail)
           exact ⟨⟨k + 1, by omega, by go_num, Bz⟩, by simp [RowKit.intOf]; omega⟩
          ·obtain rfl : k = m := by omega
           have Bd := Bi.trans (Bz.mono Bi.size)
           go_wp2_with (fail)
           exact ⟨⟨i + 1, by omega, by go_num, Bd⟩, by simp [RowKit.intOf]; omega⟩
       ·obtain rfl : i = M := by omega
        go_wp2_with (fail)
        refine (cK.out _ BW1).mono ?_
        rintro r w9 ⟨rfl, b9⟩
        have BZ := hB0.trans ((BW1.trans (b9.mono BW1.size)).mono hz1)
        go_wp2_with (fail)
        go_ret
        exact ⟨rfl, BZ⟩
end Go.Proofs.YtempicociampoaaGreatDoor
