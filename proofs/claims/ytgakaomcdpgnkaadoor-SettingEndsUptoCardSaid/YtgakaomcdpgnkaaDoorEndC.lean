/- The walk of SettingEnds. -/
import Derived.Test.YtgakaomcdpgnkaaDoorEndB
import Derived.Test.YtgakaomcdpgnkaaDoorEndP
import Derived.Test.YtgakaomcdpgnkaaDoorSetN
namespace Go.Proofs.YtgakaomcdpgnkaaDoor
open Go.RowKit Go.Shelf

set_option maxRecDepth 100000 in
set_option maxHeartbeats 40000000 in
theorem Ends_any (kind : Int) (wv : Value) (ws : List ByteArray) (a b c d ind n0 n1 n2 : Int) (w : World) (hl : Sl w 1 encS wv ws) (hs : ∀ s ∈ ws, s.size ≤ 2000000) (hi : w64 ind)
    (h0 : 0 ≤ n0 ∧ n0 ≤ 255) (h1 : 0 ≤ n1 ∧ n1 ≤ 255) (h2 : 0 ≤ n2 ∧ n2 ≤ 255) (hT : Tabs w) :
    Calls Tryd.prog 3 #[.agg #[.int .i64 kind, wv], .agg #[.int .i64 a, .int .i64 b, .int .i64 c, .int .i64 d, .int .i64 ind], .agg #[.int .u8 n0, .int .u8 n1, .int .u8 n2]] w fun e w' => e = .returned (.bool true) ∧ Below w.heap.size w w' := by
  have cS := hid (fun W (h : Below w.heap.size w W) => spelled_any kind wv ws a b c d ind W ((Kept.of_below h 0).sl hl) hs hi)
  have cW := hid (fun W (h : Below w.heap.size w W) => wakes18 W (hT.below h))
  have hB0 := (((Below.refl w.heap.size w).alloc (Nat.le_refl _) (.cells #[.int .i64 kind, wv] 24)).alloc (by simp) (.cells #[.int .i64 a, .int .i64 b, .int .i64 c, .int .i64 d, .int .i64 ind] 26)).alloc (by simp; omega) (.cells #[.int .u8 n0, .int .u8 n1, .int .u8 n2] 27)
  have hbx := World.alloc_heap_new ((w.alloc (.cells #[.int .i64 kind, wv] 24)).alloc (.cells #[.int .i64 a, .int .i64 b, .int .i64 c, .int .i64 d, .int .i64 ind] 26)) (.cells #[.int .u8 n0, .int .u8 n1, .int .u8 n2] 27)
  have hz0 : (((w.alloc (.cells #[.int .i64 kind, wv] 24)).alloc (.cells #[.int .i64 a, .int .i64 b, .int .i64 c, .int .i64 d, .int .i64 ind] 26)).alloc (.cells #[.int .u8 n0, .int .u8 n1, .int .u8 n2] 27)).heap.size = w.heap.size + 3 := by simp
  rw [World.size_alloc, World.size_alloc] at hbx
  go_enter Tryd.func3, Tryd.ntmps3
  go_wp2_with (fail)
  generalize ((w.alloc (.cells #[.int .i64 kind, wv] 24)).alloc (.cells #[.int .i64 a, .int .i64 b, .int .i64 c, .int .i64 d, .int .i64 ind] 26)).alloc (.cells #[.int .u8 n0, .int .u8 n1, .int .u8 n2] 27) = W0 at *
  refine (cS.out _ hB0).mono ?_
  rintro e w1 ⟨⟨v, l, rfl, sl, hln, hokx, hlp⟩, b1⟩
  obtain ⟨pv, cv, rfl, hu⟩ := sl.shape
  have B1 := hB0.trans (b1.mono hB0.size)
  have hb1 := (b1.block (w.heap.size + 1 + 1) (by omega)).trans hbx
  have hz1 := b1.size
  have cF := Fair_any _ l w1 sl (fun x hx => by have := (hokx x hx).2; omega)
  clear cS hB0 b1 hbx
  go_wp2_with (fail)
  refine cF.mono ?_
  rintro e w' ⟨⟨bb, rfl, hbb⟩, rfl⟩
  clear cF
  cases bb
  · go_wp2_with (fail)
    refine (cW.out _ B1).mono ?_
    rintro e w2 ⟨rfl, b2⟩
    go_wp2
    go_ret
    exact ⟨rfl, B1.trans (b2.mono B1.size)⟩
  · by_cases l0 : l = []
    · subst l0
      go_wp2_with (fail)
      refine (cW.out _ B1).mono ?_
      rintro e w2 ⟨rfl, b2⟩
      go_wp2
      go_ret
      exact ⟨rfl, B1.trans (b2.mono B1.size)⟩
    · have hlpos : 0 < l.length := List.length_pos_iff.2 l0
      have hlI : ¬ (l.length : Int) = 0 := by omega
      have hlp' := hlp l0
      have hok : ∀ x ∈ l, x.ok := fun x hx => (hokx x hx).1
      have cB := Breaks_any _ l w' sl (by omega) hok
      clear hlp hbb
      go_wp2_with (fail)
      refine cB.mono ?_
      rintro e w2 ⟨v2, rfl, sb, b2⟩
      have B2 := B1.trans (b2.mono B1.size)
      have sl2 := (Kept.of_below b2 0).sl sl
      have hb2 := (b2.block (w.heap.size + 1 + 1) (by omega)).trans hb1
      have hz2 := b2.size
      obtain ⟨p2, c2, rfl, hu2⟩ := sb.shape
      obtain ⟨hm1, hm2⟩ := brk_len l
      obtain ⟨M, hM⟩ : ∃ M, (brk l).length = M := ⟨_, rfl⟩
      rw [hM] at hm1 hm2 hu2 ⊢
      obtain ⟨A, hA, hA2⟩ : ∃ A : Nat, n0 % (M : Int) = A ∧ A < M := ⟨(n0 % (M : Int)).toNat, by have := Int.emod_nonneg n0 (show (M : Int) ≠ 0 by omega); omega, by have := Int.emod_lt_of_pos n0 (show (0 : Int) < M by omega); have := Int.emod_nonneg n0 (show (M : Int) ≠ 0 by omega); omega⟩
      obtain ⟨Bq, hBq, hBq2⟩ : ∃ B : Nat, n1 % (M : Int) = B ∧ B < M := ⟨(n1 % (M : Int)).toNat, by have := Int.emod_nonneg n1 (show (M : Int) ≠ 0 by omega); omega, by have := Int.emod_lt_of_pos n1 (show (0 : Int) < M by omega); have := Int.emod_nonneg n1 (show (M : Int) ≠ 0 by omega); omega⟩
      have x0 := cell_blk hb2 (i := 0) rfl
      have x1 := cell_blk hb2 (i := 1) rfl
      have x2 := cell_blk hb2 (i := 2) rfl
      have hMI : ¬ (M : Int) = 0 := by omega
      have t0 : n0.tmod (M : Int) = A := by rw [Int.tmod_eq_emod_of_nonneg h0.1]; exact hA
      have t1 : n1.tmod (M : Int) = Bq := by rw [Int.tmod_eq_emod_of_nonneg h1.1]; exact hBq
      clear cB B1 b2 hb1 sl
      go_upto_region 5 with (fail)
      go_region
      have B3 := Below_dr B2
      have sb3 := (Kept.drew 0 w2).sl sb
      have sl3 := (Kept.drew 0 w2).sl sl2
      have hb3 : w2.drew.heap[w.heap.size + 1 + 1]? = some (.cells #[.int .u8 n0, .int .u8 n1, .int .u8 n2] 27 (0, 0)) := hb2
      have hz3 : w2.heap.size ≤ w2.drew.heap.size := Nat.le_refl _
      clear x0 x1 x2 sb sl2 hb2 B2 t0 t1 hA hBq
      generalize w2.drew = w3 at *
      obtain ⟨X, hX⟩ : ∃ X, max A Bq = X := ⟨_, rfl⟩
      obtain ⟨Y, hY⟩ : ∃ Y, min A Bq = Y := ⟨_, rfl⟩
      have hXi : (if (A : Int) < Bq then (Bq : Int) else A) = X := by split <;> omega
      have hYi : (if (Bq : Int) < A then (Bq : Int) else A) = Y := by split <;> omega
      have hYi2 : (if (A : Int) < Bq then (A : Int) else Bq) = Y := by split <;> omega
      have hYi3 : (if (A : Int) ≤ Bq then (A : Int) else Bq) = Y := by split <;> omega
      have hXm : max (A : Int) Bq = X := by omega
      have hYm : min (A : Int) Bq = Y := by omega
      have hXM : X < (brk l).length := by omega
      have hYM : Y < (brk l).length := by omega
      have hXI : (X : Int) < M := by omega
      have hYI : (Y : Int) < M := by omega
      obtain ⟨lb, lo, cap, e1, e2, e3, e4⟩ := sb3.open (by intro h; rw [h] at hM; simp at hM; omega)
      rw [hM] at e1 e2
      simp only [Value.slice.injEq, true_and] at e1
      obtain ⟨rfl, rfl⟩ := e1
      have hcX := rangeAt_one (e4 X _ (List.getElem?_eq_getElem hXM))
      have hcY := rangeAt_one (e4 Y _ (List.getElem?_eq_getElem hYM))
      rw [Nat.mul_one] at hcX hcY
      have hmX : (brk l)[X] ∈ brk l := List.getElem_mem _
      have hmY : (brk l)[Y] ∈ brk l := List.getElem_mem _
      have hlt : Y < X → (brk l)[Y] < (brk l)[X] := fun h => List.pairwise_iff_getElem.1 (brk_rise l) Y X hYM hXM h
      have hAB : ¬ A = Bq → Y < X := fun h => by omega
      obtain ⟨t, ht, htl, -⟩ := brk_mem hmX
      obtain ⟨t2, ht2, htl2, -⟩ := brk_mem hmY
      clear e4 hX hY sb3
      rw [ht] at hcX hmX hlt
      rw [ht2] at hcY hmY hlt
      go_upto_region 6 with (fail)
      go_region
      have B4 := Below_dr B3
      have sl4 := (Kept.drew 0 w3).sl sl3
      have hb4 : w3.drew.heap[w.heap.size + 1 + 1]? = some (.cells #[.int .u8 n0, .int .u8 n1, .int .u8 n2] 27 (0, 0)) := hb3
      have hz4 : w3.heap.size ≤ w3.drew.heap.size := Nat.le_refl _
      have hcY4 : w3.drew.cell? ⟨lb, lo + Y, none⟩ = some (.int .i64 t2) := hcY
      clear B3 sl3 hb3 hcX hcY
      generalize w3.drew = w4 at *
      go_upto_if 53 with (fail)
      go_cut [11] (fun v wx => v = .int .i64 (if A = Bq then -1 else (t2 : Int)) ∧ wx = w4)
      case first => as_aux_lemma =>
        by_cases hAB2 : A = Bq
        · subst hAB2
          go_wp2_with (fail)
          go_meet
          exact ⟨by simp, rfl⟩
        · have hABI : ¬ (A : Int) = Bq := by omega
          go_wp2_with (fail)
          go_meet
          exact ⟨by simp [hAB2], rfl⟩
      case rest => as_aux_lemma =>
        obtain ⟨rfl, hwc⟩ := hcut
        rw [hwc]
        clear hwc
        obtain ⟨fr, hfr⟩ : ∃ fr : Int, (if A = Bq then -1 else (t2 : Int)) = fr := ⟨_, rfl⟩
        rw [hfr]
        have hfrb : fr = -1 ∨ (fr ∈ brk l ∧ fr < t) := by
          rw [← hfr]
          split
          · exact .inl rfl
          · rename_i h; exact .inr ⟨hmY, hlt (hAB h)⟩
        have hfw : w64 fr := by
          rcases hfrb with h | ⟨h, h2⟩
          · rw [h]; constructor <;> omega
          · obtain ⟨q, hq, -⟩ := brk_mem h
            constructor <;> omega
        have cM := hid (MLine_any _ l fr t w4 sl4 (by omega) hfw (by constructor <;> omega) hok)
        clear hXi hYi hYi2 hYi3 hXm hYm hlt hAB hcY4 hfr
        obtain ⟨s, hs⟩ : ∃ s, lineSm l (firstL l fr) (upto t l.length) = s := ⟨_, rfl⟩
        have hbd := lineSm_bd l (firstL l fr) (upto t l.length)
        rw [hs] at cM hbd
        obtain ⟨⟨w0, w1⟩, ⟨y0, y1⟩, ⟨z0, z1⟩⟩ := hbd
        have hlaw := fun hw1 wd hwd => @ends_law tw l hlp' tw_dash fr t hmX hfrb n2 h2.1 h2.2 s hs hw1 wd hwd
        obtain ⟨sw, sy, sz⟩ := s
        simp only [] at w0 w1 y0 y1 z0 z1 hlaw
        replace hs := hid hs
        dsimp only [sumC] at cM
        go_wp2_with (fail)
        refine cM.out.mono ?_
        rintro e w5 ⟨rfl, b5⟩
        clear cM
        have B5 := B4.trans (b5.mono B4.size)
        have B6 := B5.alloc B5.size (.cells #[.int .i64 sw, .int .i64 sy, .int .i64 sz] 35)
        have hq6 := World.alloc_heap_new w5 (.cells #[.int .i64 sw, .int .i64 sy, .int .i64 sz] 35)
        have hb6 := (Kept.alloc 0 w5 (.cells #[.int .i64 sw, .int .i64 sy, .int .i64 sz] 35)).same _ _ ((b5.block (w.heap.size + 1 + 1) (by omega)).trans hb4) (.inl rfl)
        have sl6 := (Kept.alloc 0 w5 (.cells #[.int .i64 sw, .int .i64 sy, .int .i64 sz] 35)).sl ((Kept.of_below b5 0).sl sl4)
        have hz6 : (w5.alloc (.cells #[.int .i64 sw, .int .i64 sy, .int .i64 sz] 35)).heap.size = w5.heap.size + 1 := by simp
        have hz5 := b5.size
        clear b5 B5 B4 sl4 hb4
        obtain ⟨w6, hw6⟩ : ∃ w6, w5.alloc (.cells #[.int .i64 sw, .int .i64 sy, .int .i64 sz] 35) = w6 := ⟨_, rfl⟩
        rw [hw6] at B6 hq6 hb6 sl6 hz6
        have q0 : w6.cell? ⟨w5.heap.size, 0, none⟩ = some (.int .i64 sw) := cell_blk hq6 rfl
        have q1 : w6.cell? ⟨w5.heap.size, 1, none⟩ = some (.int .i64 sy) := cell_blk hq6 rfl
        have q2 : w6.cell? ⟨w5.heap.size, 2, none⟩ = some (.int .i64 sz) := cell_blk hq6 rfl
        have x2 : w6.cell? ⟨w.heap.size + 1 + 1, 2, none⟩ = some (.int .u8 n2) := cell_blk hb6 rfl
        by_cases d1 : sw = 0
        · subst d1
          go_wp2_with (fail)
          refine (cW.out _ B6).mono ?_
          rintro e w2 ⟨rfl, b2⟩
          go_wp2
          go_ret
          exact ⟨rfl, B6.trans (b2.mono B6.size)⟩
        · have d1b : (sw == 0) = false := by simpa using d1
          by_cases d2 : 9000 < sw
          · go_wp2_with (fail)
            refine (cW.out _ B6).mono ?_
            rintro e w2 ⟨rfl, b2⟩
            go_wp2
            go_ret
            exact ⟨rfl, B6.trans (b2.mono B6.size)⟩
          · obtain ⟨mn, hmn⟩ : ∃ mn : Int, min sz sw = mn := ⟨_, rfl⟩
            have hmn2 : (if sz < sw then sz else sw) = mn := by rw [← hmn]; split <;> omega
            have hmn3 : (if sw < sz then sw else sz) = mn := by rw [← hmn]; split <;> omega
            have hmnb : 0 ≤ mn ∧ mn ≤ sw ∧ mn ≤ sz := by omega
            obtain ⟨wd, hwd⟩ : ∃ wd : Int, sw - mn + n2 = wd := ⟨_, rfl⟩
            have hwdb : 0 ≤ wd ∧ wd ≤ 10000 := by omega
            obtain ⟨we, hwe⟩ : ∃ we : Int, sw + n2 = we := ⟨_, rfl⟩
            have hweb : 0 ≤ we ∧ we ≤ 10000 := by omega
            have r1 : IntKind.i64.wrap (sw - mn) = sw - mn := IntWalk.i64_in _ (by omega)
            have r2 : IntKind.i64.wrap wd = wd := IntWalk.i64_in _ (by omega)
            have r3 : IntKind.i64.wrap we = we := IntWalk.i64_in _ (by omega)
            obtain ⟨L1, L2, L3, L4, L5, L6, L7, L8⟩ := hlaw (by omega) wd (by rw [hmn]; omega)
            rw [hwe] at L2 L3 L7 L8
            have cQ := hid (fun W (h : Below w6.heap.size w6 W) => SLine_any _ l fr t wd false W ((Kept.of_below h 0).sl sl6) (by omega) hfw (by constructor <;> omega) (by constructor <;> omega) hok)
            have cE := hid (fun W (h : Below w6.heap.size w6 W) => SLine_any _ l fr t we true W ((Kept.of_below h 0).sl sl6) (by omega) hfw (by constructor <;> omega) (by constructor <;> omega) hok)
            have tQ := fun p (h : p ∈ setL l fr t wd false) => setL_text h
            have tE := fun p (h : p ∈ setL l fr t we true) => setL_text h
            generalize setL l fr t wd false = PQ at *
            generalize setL l fr t we true = PE at *
            clear hlaw
            have hz6b : w5.heap.size < w6.heap.size := by omega
            have hz6c : w.heap.size + 1 + 1 < w6.heap.size := by omega
            go_wp2_with (fail)
            replace hw6 := hid hw6
            refine (cQ.out _ (Below.refl _ _)).mono ?_
            rintro e w7 ⟨vq, rfl, sq, b7⟩
            obtain ⟨pq, cq, rfl, huq⟩ := sq.shape
            have q07 := (b7.cell (p := ⟨w5.heap.size, 0, none⟩) hz6b).trans q0
            have x27 := (b7.cell (p := ⟨w.heap.size + 1 + 1, 2, none⟩) hz6c).trans x2
            clear cQ q2 x2
            go_wp2_with (fail)
            refine (cE.out _ b7).mono ?_
            rintro e w8 ⟨ve, rfl, se, b8⟩
            obtain ⟨pe, ce, rfl, hue⟩ := se.shape
            replace sq := (Kept.of_below b8 0).sl sq
            have b8' := b7.trans (b8.mono b7.size)
            have q08 := (b8'.cell (p := ⟨w5.heap.size, 0, none⟩) hz6b).trans q0
            have q18 := (b8'.cell (p := ⟨w5.heap.size, 1, none⟩) hz6b).trans q1
            have B8 := B6.trans (b8'.mono B6.size)
            have hz8 := b8'.size
            clear cE b7 b8 b8' q0 q1 q07 x27 hq6 hb6 sl6 r1 r2 r3 hmn2 hmn3
            obtain ⟨eb, heb⟩ : ∃ eb : Bool, decide (wd < sw ∨ 0 < sy) = eb := ⟨_, rfl⟩
            obtain ⟨en, hen⟩ : ∃ en : Int, (if wd < sw ∨ 0 < sy then wd else sw) = en := ⟨_, rfl⟩
            rw [hen] at L1
            go_upto_region 16 with (fail)
            go_cut [110] (fun c wx => c = .bool eb ∧ wx = w8)
            case first => as_aux_lemma =>
              by_cases g1 : wd < sw
              · go_wp2_with (fail)
                go_meet
                exact ⟨by rw [← heb]; simp [g1], rfl⟩
              · by_cases g2 : 0 < sy
                · go_wp2_with (fail)
                  go_meet
                  exact ⟨by rw [← heb]; simp [g2], rfl⟩
                · go_wp2_with (fail)
                  go_meet
                  exact ⟨by rw [← heb]; simp [g1, g2], rfl⟩
            case rest => as_aux_lemma =>
              obtain ⟨rfl, hwc⟩ := hcut
              rw [hwc]
              clear hwc
              go_upto_if 110 with (fail)
              go_cut [17] (fun c wx => c = .int .i64 en ∧ wx = w8)
              case first => as_aux_lemma =>
                cases eb
                · go_wp2_with (fail)
                  go_meet
                  exact ⟨by rw [← hen, if_neg (of_decide_eq_false heb)], rfl⟩
                · go_wp2_with (fail)
                  go_meet
                  exact ⟨by rw [← hen, if_pos (of_decide_eq_true heb)], rfl⟩
              case rest => as_aux_lemma =>
                obtain ⟨rfl, hwc⟩ := hcut
                rw [hwc]
                clear hwc
                have hPE : 1 ≤ PE.length := by rw [← L3]; exact List.length_pos_iff.2 L4
                have hPEI : ¬ (PE.length : Int) = 0 := by omega
                have hPEb : ((PE.length : Int) == 0) = false := by simpa using hPEI
                rw [L3] at sq
                have bQ : ∀ p ∈ PQ, -1000000000000000000 ≤ p.1 ∧ p.1 ≤ 1000000000000000000 ∧ p.2.size ≤ 1000000 := by
                  intro p hp
                  have h1 := le_end L5 L6 p hp
                  rw [L1] at h1
                  have h2 := L6 p hp
                  have henb : en ≤ 10000 := by rw [← hen]; split <;> omega
                  refine ⟨by omega, by omega, ?_⟩
                  rcases tQ p hp with h | ⟨x, hx, h⟩
                  · rw [h]; decide
                  · rw [h]; have := (hokx x hx).2; omega
                have bE : ∀ p ∈ PE, -1000000000000000000 ≤ p.1 ∧ p.1 ≤ 1000000000000000000 ∧ p.2.size ≤ 1000000 := by
                  intro p hp
                  have h1 := le_end L7 L8 p hp
                  rw [L2] at h1
                  have h2 := L8 p hp
                  refine ⟨by omega, by omega, ?_⟩
                  rcases tE p hp with h | ⟨x, hx, h⟩
                  · rw [h]; decide
                  · rw [h]; have := (hokx x hx).2; omega
                have kQ := hid (Wide_any (.slice pq PE.length cq) PQ w8.drew ((Kept.drew 0 w8).sl sq) bQ (hT.below (Below_dr B8)))
                have kE := hid (fun W (h : Sl W 2 encPc (.slice pe PE.length ce) PE) (h2 : Tabs W) => Wide_any (.slice pe PE.length ce) PE W h bE h2)
                rw [L1] at kQ
                rw [L2] at kE
                have hz8b : w5.heap.size < w8.heap.size := by omega
                have hz8c : w.heap.size ≤ w8.heap.size := by omega
                clear bE tE L7 L8 L2 heb hen hs hwd hwe
                go_upto_region 18 with (fail)
                go_cut [134] (fun c wx => c = .bool false ∧ Sl wx 2 encPc (.slice pq PE.length cq) PQ ∧ Below w.heap.size w wx ∧ wx.cell? ⟨w5.heap.size, 0, none⟩ = some (.int .i64 sw))
                case first => as_aux_lemma =>
                  refine wp_region_any (by kernel_rfl) ?_
                  try (change wpAny _ _ _ _ _ _ _ (World.drew _))
                  refine wpAny_take (i := 0) (oi := ⟨some 112, _, _, _, _, _⟩) (v := ?_) rfl (by kernel_rfl) (by kernel_rfl) (by kernel_rfl) (fun _ _ _ h => h) (Or.inl ⟨by rfl, ?_⟩) ?_
                  rotate_left
                  · intro w; go_simp <;> with_reducible rfl
                  simp only [Act.put, List.setIfInBounds_toArray, List.set_cons_zero, List.set_cons_succ]
                  refine wpAny_take (i := 2) (oi := ⟨some 114, _, _, _, _, _⟩) (v := ?_) rfl (by kernel_rfl) (by kernel_rfl) (by kernel_rfl) (fun _ _ _ h => h) (Or.inl ⟨by rfl, ?_⟩) ?_
                  rotate_left
                  · intro w; go_simp <;> with_reducible rfl
                  simp only [Act.put, List.setIfInBounds_toArray, List.set_cons_zero, List.set_cons_succ]
                  refine wpAny_ready (rs := [1]) (by kernel_rfl) (by simp) ?_
                  refine AllReady.cons rfl (fun K hK => ?_) AllReady.nil
                  go_simp
                  refine kQ.out.mono ?_
                  rintro e w9 ⟨rfl, b9⟩
                  have se9 := (Kept.of_below b9 0).sl ((Kept.drew 0 w8).sl se)
                  have sq9 := (Kept.of_below b9 0).sl ((Kept.drew 0 w8).sl sq)
                  have q09 := (b9.cell (p := ⟨w5.heap.size, 0, none⟩) (by show w5.heap.size < w8.heap.size; omega)).trans (show w8.drew.cell? ⟨w5.heap.size, 0, none⟩ = _ from q08)
                  have B9 := (Below_dr B8).trans (b9.mono (by show w.heap.size ≤ w8.heap.size; omega))
                  first | refine hK _ _ ?_ | refine ⟨trivial, hK _ _ ?_⟩ | refine ⟨fun _ _ => trivial, hK _ _ ?_⟩
                  clear hK K
                  refine wpAny_take (i := 3) (oi := ⟨some 115, _, _, _, _, _⟩) (v := ?_) rfl (by kernel_rfl) (by kernel_rfl) (by kernel_rfl) (fun _ _ _ h => h) (Or.inl ⟨by rfl, ?_⟩) ?_
                  rotate_left
                  · intro w; go_simp <;> with_reducible rfl
                  simp only [Act.put, List.setIfInBounds_toArray, List.set_cons_zero, List.set_cons_succ]
                  refine wpAny_take (i := 4) (oi := ⟨some 116, _, _, _, _, _⟩) (v := ?_) rfl (by kernel_rfl) (by kernel_rfl) (by kernel_rfl) (fun _ _ _ h => h) (Or.inl ⟨by rfl, ?_⟩) ?_
                  rotate_left
                  · intro w; go_simp <;> with_reducible rfl
                  simp only [Act.put, List.setIfInBounds_toArray, List.set_cons_zero, List.set_cons_succ]
                  refine wpAny_take (i := 5) (oi := ⟨some 117, _, _, _, _, _⟩) (v := ?_) rfl (by kernel_rfl) (by kernel_rfl) (by kernel_rfl) (fun _ _ _ h => h) (Or.inl ⟨by rfl, ?_⟩) ?_
                  rotate_left
                  · intro w; go_simp <;> with_reducible rfl
                  simp only [Act.put, List.setIfInBounds_toArray, List.set_cons_zero, List.set_cons_succ]
                  refine wpAny_take (i := 7) (oi := ⟨some 119, _, _, _, _, _⟩) (v := ?_) rfl (by kernel_rfl) (by kernel_rfl) (by kernel_rfl) (fun _ _ _ h => h) (Or.inl ⟨by rfl, ?_⟩) ?_
                  rotate_left
                  · intro w; go_simp <;> with_reducible rfl
                  simp only [Act.put, List.setIfInBounds_toArray, List.set_cons_zero, List.set_cons_succ]
                  refine wpAny_ready (rs := [6, 8]) (by kernel_rfl) (by simp) ?_
                  refine AllReady.cons rfl (fun K hK => ?_) ?_
                  · go_simp
                    refine (kE.out w9 se9 (hT.below B9)).mono ?_
                    rintro e wA ⟨rfl, bA⟩
                    have sqA := (Kept.of_below bA 0).sl sq9
                    have qA := (bA.cell (p := ⟨w5.heap.size, 0, none⟩) (by have h : w8.heap.size ≤ w9.heap.size := b9.size; show w5.heap.size < w9.heap.size; omega)).trans q09
                    have BA := B9.trans (bA.mono B9.size)
                    first | refine hK _ _ ?_ | refine ⟨trivial, hK _ _ ?_⟩ | refine ⟨fun _ _ => trivial, hK _ _ ?_⟩
                    clear hK K
                    refine wpAny_ready (rs := [8]) (by kernel_rfl) (by simp) ?_
                    refine AllReady.cons rfl (fun K hK => ?_) AllReady.nil
                    go_simp
                    first | refine hK _ _ ?_ | refine ⟨trivial, hK _ _ ?_⟩ | refine ⟨fun _ _ => trivial, hK _ _ ?_⟩
                    clear hK K
                    refine wpAny_take (i := 9) (oi := ⟨some 121, _, _, _, _, _⟩) (v := ?_) rfl (by kernel_rfl) (by kernel_rfl) (by kernel_rfl) (fun _ _ _ h => h) (Or.inl ⟨by rfl, ?_⟩) ?_
                    rotate_left
                    · intro w; go_simp <;> with_reducible rfl
                    simp only [Act.put, List.setIfInBounds_toArray, List.set_cons_zero, List.set_cons_succ]
                    refine wpAny_take (i := 10) (oi := ⟨some 122, _, _, _, _, _⟩) (v := ?_) rfl (by kernel_rfl) (by kernel_rfl) (by kernel_rfl) (fun _ _ _ h => h) (Or.inl ⟨by rfl, ?_⟩) ?_
                    rotate_left
                    · intro w; go_simp <;> with_reducible rfl
                    simp only [Act.put, List.setIfInBounds_toArray, List.set_cons_zero, List.set_cons_succ]
                    refine wpAny_take (i := 11) (oi := ⟨some 123, _, _, _, _, _⟩) (v := ?_) rfl (by kernel_rfl) (by kernel_rfl) (by kernel_rfl) (fun _ _ _ h => h) (Or.inl ⟨by rfl, ?_⟩) ?_
                    rotate_left
                    · intro w; go_simp <;> with_reducible rfl
                    simp only [Act.put, List.setIfInBounds_toArray, List.set_cons_zero, List.set_cons_succ]
                    refine wpAny_take (i := 12) (oi := ⟨some 124, _, _, _, _, _⟩) (v := ?_) rfl (by kernel_rfl) (by kernel_rfl) (by kernel_rfl) (fun _ _ _ h => h) (Or.inl ⟨by rfl, ?_⟩) ?_
                    rotate_left
                    · intro w; go_simp <;> with_reducible rfl
                    simp only [Act.put, List.setIfInBounds_toArray, List.set_cons_zero, List.set_cons_succ]
                    refine wpAny_take (i := 13) (oi := ⟨some 125, _, _, _, _, _⟩) (v := ?_) rfl (by kernel_rfl) (by kernel_rfl) (by kernel_rfl) (fun _ _ _ h => h) (Or.inl ⟨by rfl, ?_⟩) ?_
                    rotate_left
                    · intro w; go_simp <;> with_reducible rfl
                    simp only [Act.put, List.setIfInBounds_toArray, List.set_cons_zero, List.set_cons_succ]
                    refine wpAny_take (i := 14) (oi := ⟨some 126, _, _, _, _, _⟩) (v := ?_) rfl (by kernel_rfl) (by kernel_rfl) (by kernel_rfl) (fun _ _ _ h => h) (Or.inl ⟨by rfl, ?_⟩) ?_
                    rotate_left
                    · intro w; go_simp <;> with_reducible rfl
                    simp only [Act.put, List.setIfInBounds_toArray, List.set_cons_zero, List.set_cons_succ]
                    refine wpAny_take (i := 15) (oi := ⟨some 127, _, _, _, _, _⟩) (v := ?_) rfl (by kernel_rfl) (by kernel_rfl) (by kernel_rfl) (fun _ _ _ h => h) (Or.inl ⟨by rfl, ?_⟩) ?_
                    rotate_left
                    · intro w; go_simp <;> with_reducible rfl
                    simp only [Act.put, List.setIfInBounds_toArray, List.set_cons_zero, List.set_cons_succ]
                    refine wpAny_take (i := 16) (oi := ⟨some 128, _, _, _, _, _⟩) (v := ?_) rfl (by kernel_rfl) (by kernel_rfl) (by kernel_rfl) (fun _ _ _ h => h) (Or.inl ⟨by rfl, ?_⟩) ?_
                    rotate_left
                    · intro w; go_simp <;> with_reducible rfl
                    simp only [Act.put, List.setIfInBounds_toArray, List.set_cons_zero, List.set_cons_succ]
                    refine wpAny_take (i := 17) (oi := ⟨some 129, _, _, _, _, _⟩) (v := ?_) rfl (by kernel_rfl) (by kernel_rfl) (by kernel_rfl) (fun _ _ _ h => h) (Or.inl ⟨by rfl, ?_⟩) ?_
                    rotate_left
                    · intro w; go_simp <;> with_reducible rfl
                    simp only [Act.put, List.setIfInBounds_toArray, List.set_cons_zero, List.set_cons_succ]
                    refine wpAny_take (i := 18) (oi := ⟨some 130, _, _, _, _, _⟩) (v := ?_) rfl (by kernel_rfl) (by kernel_rfl) (by kernel_rfl) (fun _ _ _ h => h) (Or.inl ⟨by rfl, ?_⟩) ?_
                    rotate_left
                    · intro w; go_simp <;> with_reducible rfl
                    simp only [Act.put, List.setIfInBounds_toArray, List.set_cons_zero, List.set_cons_succ]
                    refine wpAny_take (i := 19) (oi := ⟨some 131, _, _, _, _, _⟩) (v := ?_) rfl (by kernel_rfl) (by kernel_rfl) (by kernel_rfl) (fun _ _ _ h => h) (Or.inl ⟨by rfl, ?_⟩) ?_
                    rotate_left
                    · intro w; go_simp <;> with_reducible rfl
                    simp only [Act.put, List.setIfInBounds_toArray, List.set_cons_zero, List.set_cons_succ]
                    refine wpAny_take (i := 20) (oi := ⟨some 132, _, _, _, _, _⟩) (v := ?_) rfl (by kernel_rfl) (by kernel_rfl) (by kernel_rfl) (fun _ _ _ h => h) (Or.inl ⟨by rfl, ?_⟩) ?_
                    rotate_left
                    · intro w; go_simp <;> with_reducible rfl
                    simp only [Act.put, List.setIfInBounds_toArray, List.set_cons_zero, List.set_cons_succ]
                    refine wpAny_take (i := 21) (oi := ⟨some 133, _, _, _, _, _⟩) (v := ?_) rfl (by kernel_rfl) (by kernel_rfl) (by kernel_rfl) (fun _ _ _ h => h) (Or.inl ⟨by rfl, ?_⟩) ?_
                    rotate_left
                    · intro w; go_simp <;> with_reducible rfl
                    simp only [Act.put, List.setIfInBounds_toArray, List.set_cons_zero, List.set_cons_succ]
                    refine wpAny_take (i := 22) (oi := ⟨some 134, _, _, _, _, _⟩) (v := ?_) rfl (by kernel_rfl) (by kernel_rfl) (by kernel_rfl) (fun _ _ _ h => h) (Or.inl ⟨by rfl, ?_⟩) ?_
                    rotate_left
                    · intro w; go_simp <;> with_reducible rfl
                    simp only [Act.put, List.setIfInBounds_toArray, List.set_cons_zero, List.set_cons_succ]
                    refine wpAny_done (by kernel_rfl) ?_ _
                    go_wp2_with (fail)
                    go_meet
                    exact ⟨rfl, sqA, BA, qA⟩
                  refine AllReady.cons rfl (fun K hK => ?_) AllReady.nil
                  go_simp
                  first | refine hK _ _ ?_ | refine ⟨trivial, hK _ _ ?_⟩ | refine ⟨fun _ _ => trivial, hK _ _ ?_⟩
                  clear hK K
                  refine wpAny_ready (rs := [6]) (by kernel_rfl) (by simp) ?_
                  refine AllReady.cons rfl (fun K hK => ?_) AllReady.nil
                  go_simp
                  refine (kE.out w9 se9 (hT.below B9)).mono ?_
                  rintro e wA ⟨rfl, bA⟩
                  have sqA := (Kept.of_below bA 0).sl sq9
                  have qA := (bA.cell (p := ⟨w5.heap.size, 0, none⟩) (by have h : w8.heap.size ≤ w9.heap.size := b9.size; show w5.heap.size < w9.heap.size; omega)).trans q09
                  have BA := B9.trans (bA.mono B9.size)
                  first | refine hK _ _ ?_ | refine ⟨trivial, hK _ _ ?_⟩ | refine ⟨fun _ _ => trivial, hK _ _ ?_⟩
                  clear hK K
                  refine wpAny_take (i := 9) (oi := ⟨some 121, _, _, _, _, _⟩) (v := ?_) rfl (by kernel_rfl) (by kernel_rfl) (by kernel_rfl) (fun _ _ _ h => h) (Or.inl ⟨by rfl, ?_⟩) ?_
                  rotate_left
                  · intro w; go_simp <;> with_reducible rfl
                  simp only [Act.put, List.setIfInBounds_toArray, List.set_cons_zero, List.set_cons_succ]
                  refine wpAny_take (i := 10) (oi := ⟨some 122, _, _, _, _, _⟩) (v := ?_) rfl (by kernel_rfl) (by kernel_rfl) (by kernel_rfl) (fun _ _ _ h => h) (Or.inl ⟨by rfl, ?_⟩) ?_
                  rotate_left
                  · intro w; go_simp <;> with_reducible rfl
                  simp only [Act.put, List.setIfInBounds_toArray, List.set_cons_zero, List.set_cons_succ]
                  refine wpAny_take (i := 11) (oi := ⟨some 123, _, _, _, _, _⟩) (v := ?_) rfl (by kernel_rfl) (by kernel_rfl) (by kernel_rfl) (fun _ _ _ h => h) (Or.inl ⟨by rfl, ?_⟩) ?_
                  rotate_left
                  · intro w; go_simp <;> with_reducible rfl
                  simp only [Act.put, List.setIfInBounds_toArray, List.set_cons_zero, List.set_cons_succ]
                  refine wpAny_take (i := 12) (oi := ⟨some 124, _, _, _, _, _⟩) (v := ?_) rfl (by kernel_rfl) (by kernel_rfl) (by kernel_rfl) (fun _ _ _ h => h) (Or.inl ⟨by rfl, ?_⟩) ?_
                  rotate_left
                  · intro w; go_simp <;> with_reducible rfl
                  simp only [Act.put, List.setIfInBounds_toArray, List.set_cons_zero, List.set_cons_succ]
                  refine wpAny_take (i := 13) (oi := ⟨some 125, _, _, _, _, _⟩) (v := ?_) rfl (by kernel_rfl) (by kernel_rfl) (by kernel_rfl) (fun _ _ _ h => h) (Or.inl ⟨by rfl, ?_⟩) ?_
                  rotate_left
                  · intro w; go_simp <;> with_reducible rfl
                  simp only [Act.put, List.setIfInBounds_toArray, List.set_cons_zero, List.set_cons_succ]
                  refine wpAny_take (i := 14) (oi := ⟨some 126, _, _, _, _, _⟩) (v := ?_) rfl (by kernel_rfl) (by kernel_rfl) (by kernel_rfl) (fun _ _ _ h => h) (Or.inl ⟨by rfl, ?_⟩) ?_
                  rotate_left
                  · intro w; go_simp <;> with_reducible rfl
                  simp only [Act.put, List.setIfInBounds_toArray, List.set_cons_zero, List.set_cons_succ]
                  refine wpAny_take (i := 15) (oi := ⟨some 127, _, _, _, _, _⟩) (v := ?_) rfl (by kernel_rfl) (by kernel_rfl) (by kernel_rfl) (fun _ _ _ h => h) (Or.inl ⟨by rfl, ?_⟩) ?_
                  rotate_left
                  · intro w; go_simp <;> with_reducible rfl
                  simp only [Act.put, List.setIfInBounds_toArray, List.set_cons_zero, List.set_cons_succ]
                  refine wpAny_take (i := 16) (oi := ⟨some 128, _, _, _, _, _⟩) (v := ?_) rfl (by kernel_rfl) (by kernel_rfl) (by kernel_rfl) (fun _ _ _ h => h) (Or.inl ⟨by rfl, ?_⟩) ?_
                  rotate_left
                  · intro w; go_simp <;> with_reducible rfl
                  simp only [Act.put, List.setIfInBounds_toArray, List.set_cons_zero, List.set_cons_succ]
                  refine wpAny_take (i := 17) (oi := ⟨some 129, _, _, _, _, _⟩) (v := ?_) rfl (by kernel_rfl) (by kernel_rfl) (by kernel_rfl) (fun _ _ _ h => h) (Or.inl ⟨by rfl, ?_⟩) ?_
                  rotate_left
                  · intro w; go_simp <;> with_reducible rfl
                  simp only [Act.put, List.setIfInBounds_toArray, List.set_cons_zero, List.set_cons_succ]
                  refine wpAny_take (i := 18) (oi := ⟨some 130, _, _, _, _, _⟩) (v := ?_) rfl (by kernel_rfl) (by kernel_rfl) (by kernel_rfl) (fun _ _ _ h => h) (Or.inl ⟨by rfl, ?_⟩) ?_
                  rotate_left
                  · intro w; go_simp <;> with_reducible rfl
                  simp only [Act.put, List.setIfInBounds_toArray, List.set_cons_zero, List.set_cons_succ]
                  refine wpAny_take (i := 19) (oi := ⟨some 131, _, _, _, _, _⟩) (v := ?_) rfl (by kernel_rfl) (by kernel_rfl) (by kernel_rfl) (fun _ _ _ h => h) (Or.inl ⟨by rfl, ?_⟩) ?_
                  rotate_left
                  · intro w; go_simp <;> with_reducible rfl
                  simp only [Act.put, List.setIfInBounds_toArray, List.set_cons_zero, List.set_cons_succ]
                  refine wpAny_take (i := 20) (oi := ⟨some 132, _, _, _, _, _⟩) (v := ?_) rfl (by kernel_rfl) (by kernel_rfl) (by kernel_rfl) (fun _ _ _ h => h) (Or.inl ⟨by rfl, ?_⟩) ?_
                  rotate_left
                  · intro w; go_simp <;> with_reducible rfl
                  simp only [Act.put, List.setIfInBounds_toArray, List.set_cons_zero, List.set_cons_succ]
                  refine wpAny_take (i := 21) (oi := ⟨some 133, _, _, _, _, _⟩) (v := ?_) rfl (by kernel_rfl) (by kernel_rfl) (by kernel_rfl) (fun _ _ _ h => h) (Or.inl ⟨by rfl, ?_⟩) ?_
                  rotate_left
                  · intro w; go_simp <;> with_reducible rfl
                  simp only [Act.put, List.setIfInBounds_toArray, List.set_cons_zero, List.set_cons_succ]
                  refine wpAny_take (i := 22) (oi := ⟨some 134, _, _, _, _, _⟩) (v := ?_) rfl (by kernel_rfl) (by kernel_rfl) (by kernel_rfl) (fun _ _ _ h => h) (Or.inl ⟨by rfl, ?_⟩) ?_
                  rotate_left
                  · intro w; go_simp <;> with_reducible rfl
                  simp only [Act.put, List.setIfInBounds_toArray, List.set_cons_zero, List.set_cons_succ]
                  refine wpAny_done (by kernel_rfl) ?_ _
                  go_wp2_with (fail)
                  go_meet
                  exact ⟨rfl, sqA, BA, qA⟩
                case rest => as_aux_lemma =>
                  obtain ⟨rfl, sqA, BA, -⟩ := hcut
                  generalize hwA : wc = wA at *
                  obtain ⟨pb, po, cap3, e1, e2, e3, e4⟩ := sqA.open L4
                  rw [L3] at e1
                  simp only [Value.slice.injEq, true_and] at e1
                  obtain ⟨rfl, rfl⟩ := e1
                  have hQ0 : 0 < PQ.length := by omega
                  have gz := (piece_cells (e4 0 _ (List.getElem?_eq_getElem hQ0))).1
                  have hx0 := (L6 PQ[0] (List.getElem_mem _)).1
                  have hpbl : pb < wA.heap.size := by
                    cases h5 : wA.heap[pb]? with
                    | none => simp [World.cell?, h5] at gz
                    | some o => exact (Array.getElem?_eq_some_iff.1 h5).1
                  generalize PQ[0].1 = xz at *
                  simp only [Nat.zero_mul, Nat.add_zero] at gz
                  clear kQ kE hokx tQ q08 q18 se sq
                  go_wp2_with (fail)
                  go_loopw [18] (fun i wx => ∃ k : Nat, 1 ≤ k ∧ k ≤ PE.length ∧ i = .int .i64 k ∧ Below wA.heap.size wA wx) (fun i _ => PE.length - (RowKit.intOf i).toNat)
                  case atStart => exact ⟨1, by omega, by omega, rfl, Below.refl _ _⟩
                  case round => as_aux_lemma =>
                    obtain ⟨k, hk1, hk2, rfl, hB⟩ := hrel
                    have hszr := hB.size
                    by_cases hkl : k < PE.length
                    · have hkl1 : k < PQ.length := by omega
                      have hkl2 : k - 1 < PQ.length := by omega
                      obtain ⟨g0, g1⟩ := piece_cells (e4 (k - 1) _ (List.getElem?_eq_getElem hkl2))
                      obtain ⟨g2, -⟩ := piece_cells (e4 k _ (List.getElem?_eq_getElem hkl1))
                      replace g0 := (hB.cell (p := ⟨pb, po + (k - 1) * 2, none⟩) hpbl).trans g0
                      replace g1 := (hB.cell (p := ⟨pb, po + (k - 1) * 2 + 1, none⟩) hpbl).trans g1
                      replace g2 := (hB.cell (p := ⟨pb, po + k * 2, none⟩) hpbl).trans g2
                      have hle := List.pairwise_iff_getElem.1 L5 (k - 1) k hkl2 hkl1 (by omega)
                      obtain ⟨l60, l61⟩ := L6 PQ[k - 1] (List.getElem_mem _)
                      obtain ⟨-, bq1, bq2⟩ := bQ PQ[k - 1] (List.getElem_mem _)
                      have bq3 := (bQ PQ[k] (List.getElem_mem _)).2.1
                      have kT := hid (fun W => RMText_any PQ[k - 1].2 W (by omega))
                      change Hid (∀ W, Calls Tryd.prog 15 #[.string PQ[k - 1].2] W fun e w' => e = .returned (.int .i64 (tw PQ[k - 1].2)) ∧ Below W.heap.size W w') at kT
                      have gz' : 0 ≤ xz := hx0
                      clear e4 bQ L5 L6 gz hx0 gz'
                      generalize PQ[k].1 = qx at *
                      generalize PQ[k - 1].1 = px at *
                      generalize PQ[k - 1].2 = pt at *
                      generalize tw pt = tp at *
                      have hwp : IntKind.i64.wrap (px + tp) = px + tp := IntWalk.i64_in _ (by omega)
                      have hle2 : px ≤ qx := by omega
                      have hkI : (k : Int) < PE.length := by omega
                      have hk1I : (1 : Int) ≤ k := by omega
                      have hd1 : decide (qx < px + tp) = false := decide_eq_false (by omega)
                      have hd2 : decide (qx < px) = false := decide_eq_false (by omega)
                      have hk0 : (0 : Int) ≤ k - 1 := by omega
                      have hkm : (k : Int) - 1 < PE.length := by omega
                      have hkn : ((k : Int) - 1).toNat = k - 1 := by omega
                      have hwk1 : IntKind.i64.wrap ((k : Int) + 1) = k + 1 := IntWalk.i64_in _ (by unfold maxLen at hue; omega)
                      have hwk : IntKind.i64.wrap ((k : Int) - 1) = k - 1 := IntWalk.i64_in _ (by unfold maxLen at hue; omega)
                      go_upto_region 23 with (fail)
                      go_cut [174] (fun c wx => c = .bool false ∧ Below wA.heap.size wA wx)
                      case first => as_aux_lemma =>
                        refine wp_region_any (by kernel_rfl) ?_
                        try (change wpAny _ _ _ _ _ _ _ (World.drew _))
                        refine wpAny_take (i := 0) (oi := ⟨some 141, _, _, _, _, _⟩) (v := ?_) rfl (by kernel_rfl) (by kernel_rfl) (by kernel_rfl) (fun _ _ _ h => h) (Or.inl ⟨by rfl, ?_⟩) ?_
                        rotate_left
                        · intro w; go_simp <;> with_reducible rfl
                        simp only [Act.put, List.setIfInBounds_toArray, List.set_cons_zero, List.set_cons_succ]
                        try simp only [hd1]
                        try simp only [hd2]
                        refine wpAny_take (i := 1) (oi := ⟨some 142, _, _, _, _, _⟩) (v := ?_) rfl (by kernel_rfl) (by kernel_rfl) (by kernel_rfl) (fun _ _ _ h => h) (Or.inl ⟨by rfl, ?_⟩) ?_
                        rotate_left
                        · intro w; go_simp <;> with_reducible rfl
                        simp only [Act.put, List.setIfInBounds_toArray, List.set_cons_zero, List.set_cons_succ]
                        try simp only [hd1]
                        try simp only [hd2]
                        refine wpAny_take (i := 2) (oi := ⟨some 143, _, _, _, _, _⟩) (v := ?_) rfl (by kernel_rfl) (by kernel_rfl) (by kernel_rfl) (fun _ _ _ h => h) (Or.inl ⟨by rfl, ?_⟩) ?_
                        rotate_left
                        · intro w; go_simp <;> with_reducible rfl
                        simp only [Act.put, List.setIfInBounds_toArray, List.set_cons_zero, List.set_cons_succ]
                        try simp only [hd1]
                        try simp only [hd2]
                        refine wpAny_take (i := 3) (oi := ⟨some 144, _, _, _, _, _⟩) (v := ?_) rfl (by kernel_rfl) (by kernel_rfl) (by kernel_rfl) (fun _ _ _ h => h) (Or.inl ⟨by rfl, ?_⟩) ?_
                        rotate_left
                        · intro w; go_simp <;> with_reducible rfl
                        simp only [Act.put, List.setIfInBounds_toArray, List.set_cons_zero, List.set_cons_succ]
                        try simp only [hd1]
                        try simp only [hd2]
                        refine wpAny_take (i := 4) (oi := ⟨some 145, _, _, _, _, _⟩) (v := ?_) rfl (by kernel_rfl) (by kernel_rfl) (by kernel_rfl) (fun _ _ _ h => h) (Or.inl ⟨by rfl, ?_⟩) ?_
                        rotate_left
                        · intro w; go_simp <;> with_reducible rfl
                        simp only [Act.put, List.setIfInBounds_toArray, List.set_cons_zero, List.set_cons_succ]
                        try simp only [hd1]
                        try simp only [hd2]
                        refine wpAny_take (i := 6) (oi := ⟨some 147, _, _, _, _, _⟩) (v := ?_) rfl (by kernel_rfl) (by kernel_rfl) (by kernel_rfl) (fun _ _ _ h => h) (Or.inl ⟨by rfl, ?_⟩) ?_
                        rotate_left
                        · intro w; go_simp <;> with_reducible rfl
                        simp only [Act.put, List.setIfInBounds_toArray, List.set_cons_zero, List.set_cons_succ]
                        try simp only [hd1]
                        try simp only [hd2]
                        refine wpAny_take (i := 7) (oi := ⟨some 148, _, _, _, _, _⟩) (v := ?_) rfl (by kernel_rfl) (by kernel_rfl) (by kernel_rfl) (fun _ _ _ h => h) (Or.inl ⟨by rfl, ?_⟩) ?_
                        rotate_left
                        · intro w; go_simp <;> with_reducible rfl
                        simp only [Act.put, List.setIfInBounds_toArray, List.set_cons_zero, List.set_cons_succ]
                        try simp only [hd1]
                        try simp only [hd2]
                        refine wpAny_take (i := 8) (oi := ⟨some 149, _, _, _, _, _⟩) (v := ?_) rfl (by kernel_rfl) (by kernel_rfl) (by kernel_rfl) (fun _ _ _ h => h) (Or.inl ⟨by rfl, ?_⟩) ?_
                        rotate_left
                        · intro w; go_simp <;> with_reducible rfl
                        simp only [Act.put, List.setIfInBounds_toArray, List.set_cons_zero, List.set_cons_succ]
                        try simp only [hd1]
                        try simp only [hd2]
                        refine wpAny_take (i := 9) (oi := ⟨some 150, _, _, _, _, _⟩) (v := ?_) rfl (by kernel_rfl) (by kernel_rfl) (by kernel_rfl) (fun _ _ _ h => h) (Or.inl ⟨by rfl, ?_⟩) ?_
                        rotate_left
                        · intro w; go_simp <;> with_reducible rfl
                        simp only [Act.put, List.setIfInBounds_toArray, List.set_cons_zero, List.set_cons_succ]
                        try simp only [hd1]
                        try simp only [hd2]
                        refine wpAny_take (i := 10) (oi := ⟨some 151, _, _, _, _, _⟩) (v := ?_) rfl (by kernel_rfl) (by kernel_rfl) (by kernel_rfl) (fun _ _ _ h => h) (Or.inl ⟨by rfl, ?_⟩) ?_
                        rotate_left
                        · intro w; go_simp <;> with_reducible rfl
                        simp only [Act.put, List.setIfInBounds_toArray, List.set_cons_zero, List.set_cons_succ]
                        try simp only [hd1]
                        try simp only [hd2]
                        refine wpAny_take (i := 14) (oi := ⟨some 155, _, _, _, _, _⟩) (v := ?_) rfl (by kernel_rfl) (by kernel_rfl) (by kernel_rfl) (fun _ _ _ h => h) (Or.inl ⟨by rfl, ?_⟩) ?_
                        rotate_left
                        · intro w; go_simp <;> with_reducible rfl
                        simp only [Act.put, List.setIfInBounds_toArray, List.set_cons_zero, List.set_cons_succ]
                        try simp only [hd1]
                        try simp only [hd2]
                        refine wpAny_take (i := 15) (oi := ⟨some 156, _, _, _, _, _⟩) (v := ?_) rfl (by kernel_rfl) (by kernel_rfl) (by kernel_rfl) (fun _ _ _ h => h) (Or.inl ⟨by rfl, ?_⟩) ?_
                        rotate_left
                        · intro w; go_simp <;> with_reducible rfl
                        simp only [Act.put, List.setIfInBounds_toArray, List.set_cons_zero, List.set_cons_succ]
                        try simp only [hd1]
                        try simp only [hd2]
                        refine wpAny_take (i := 16) (oi := ⟨some 157, _, _, _, _, _⟩) (v := ?_) rfl (by kernel_rfl) (by kernel_rfl) (by kernel_rfl) (fun _ _ _ h => h) (Or.inl ⟨by rfl, ?_⟩) ?_
                        rotate_left
                        · intro w; go_simp <;> with_reducible rfl
                        simp only [Act.put, List.setIfInBounds_toArray, List.set_cons_zero, List.set_cons_succ]
                        try simp only [hd1]
                        try simp only [hd2]
                        refine wpAny_take (i := 17) (oi := ⟨some 158, _, _, _, _, _⟩) (v := ?_) rfl (by kernel_rfl) (by kernel_rfl) (by kernel_rfl) (fun _ _ _ h => h) (Or.inl ⟨by rfl, ?_⟩) ?_
                        rotate_left
                        · intro w; go_simp <;> with_reducible rfl
                        simp only [Act.put, List.setIfInBounds_toArray, List.set_cons_zero, List.set_cons_succ]
                        try simp only [hd1]
                        try simp only [hd2]
                        refine wpAny_ready (rs := [5, 11, 18]) (by kernel_rfl) (by simp) ?_
                        refine AllReady.cons rfl (fun K hK => ?_) ?_
                        · go_simp
                          first | refine hK _ _ ?_ | refine ⟨trivial, hK _ _ ?_⟩ | refine ⟨fun _ _ => trivial, hK _ _ ?_⟩
                          clear hK K
                          refine wpAny_ready (rs := [11, 18]) (by kernel_rfl) (by simp) ?_
                          refine AllReady.cons rfl (fun K hK => ?_) ?_
                          · go_simp
                            first | refine hK _ _ ?_ | refine ⟨trivial, hK _ _ ?_⟩ | refine ⟨fun _ _ => trivial, hK _ _ ?_⟩
                            clear hK K
                            refine wpAny_ready (rs := [12, 18]) (by kernel_rfl) (by simp) ?_
                            refine AllReady.cons rfl (fun K hK => ?_) ?_
                            · go_simp
                              refine (kT.out _).mono ?_
                              rintro e wB ⟨rfl, bB⟩
                              have f0 := (bB.cell (p := ⟨pb, po + (k - 1) * 2, none⟩) (by show pb < wr.heap.size; omega)).trans (show wr.drew.cell? ⟨pb, po + (k - 1) * 2, none⟩ = _ from g0)
                              have f2 := (bB.cell (p := ⟨pb, po + k * 2, none⟩) (by show pb < wr.heap.size; omega)).trans (show wr.drew.cell? ⟨pb, po + k * 2, none⟩ = _ from g2)
                              have BB := (Below_dr hB).trans (bB.mono (by show wA.heap.size ≤ wr.heap.size; exact hB.size))
                              first | refine hK _ _ ?_ | refine ⟨trivial, hK _ _ ?_⟩ | refine ⟨fun _ _ => trivial, hK _ _ ?_⟩
                              clear hK K
                              refine wpAny_take (i := 13) (oi := ⟨some 154, _, _, _, _, _⟩) (v := ?_) rfl (by kernel_rfl) (by kernel_rfl) (by kernel_rfl) (fun _ _ _ h => h) (Or.inl ⟨by rfl, ?_⟩) ?_
                              rotate_left
                              · intro w; go_simp <;> with_reducible rfl
                              simp only [Act.put, List.setIfInBounds_toArray, List.set_cons_zero, List.set_cons_succ]
                              try simp only [hd1]
                              try simp only [hd2]
                              refine wpAny_ready (rs := [18]) (by kernel_rfl) (by simp) ?_
                              refine AllReady.cons rfl (fun K hK => ?_) AllReady.nil
                              go_simp
                              first | refine hK _ _ ?_ | refine ⟨trivial, hK _ _ ?_⟩ | refine ⟨fun _ _ => trivial, hK _ _ ?_⟩
                              clear hK K
                              refine wpAny_take (i := 19) (oi := ⟨some 160, _, _, _, _, _⟩) (v := ?_) rfl (by kernel_rfl) (by kernel_rfl) (by kernel_rfl) (fun _ _ _ h => h) (Or.inl ⟨by rfl, ?_⟩) ?_
                              rotate_left
                              · intro w; go_simp <;> with_reducible rfl
                              simp only [Act.put, List.setIfInBounds_toArray, List.set_cons_zero, List.set_cons_succ]
                              try simp only [hd1]
                              try simp only [hd2]
                              refine wpAny_take (i := 20) (oi := ⟨some 161, _, _, _, _, _⟩) (v := ?_) rfl (by kernel_rfl) (by kernel_rfl) (by kernel_rfl) (fun _ _ _ h => h) (Or.inl ⟨by rfl, ?_⟩) ?_
                              rotate_left
                              · intro w; go_simp <;> with_reducible rfl
                              simp only [Act.put, List.setIfInBounds_toArray, List.set_cons_zero, List.set_cons_succ]
                              try simp only [hd1]
                              try simp only [hd2]
                              refine wpAny_take (i := 21) (oi := ⟨some 162, _, _, _, _, _⟩) (v := ?_) rfl (by kernel_rfl) (by kernel_rfl) (by kernel_rfl) (fun _ _ _ h => h) (Or.inl ⟨by rfl, ?_⟩) ?_
                              rotate_left
                              · intro w; go_simp <;> with_reducible rfl
                              simp only [Act.put, List.setIfInBounds_toArray, List.set_cons_zero, List.set_cons_succ]
                              try simp only [hd1]
                              try simp only [hd2]
                              refine wpAny_take (i := 22) (oi := ⟨some 163, _, _, _, _, _⟩) (v := ?_) rfl (by kernel_rfl) (by kernel_rfl) (by kernel_rfl) (fun _ _ _ h => h) (Or.inl ⟨by rfl, ?_⟩) ?_
                              rotate_left
                              · intro w; go_simp <;> with_reducible rfl
                              simp only [Act.put, List.setIfInBounds_toArray, List.set_cons_zero, List.set_cons_succ]
                              try simp only [hd1]
                              try simp only [hd2]
                              refine wpAny_take (i := 23) (oi := ⟨some 164, _, _, _, _, _⟩) (v := ?_) rfl (by kernel_rfl) (by kernel_rfl) (by kernel_rfl) (fun _ _ _ h => h) (Or.inl ⟨by rfl, ?_⟩) ?_
                              rotate_left
                              · intro w; go_simp <;> with_reducible rfl
                              simp only [Act.put, List.setIfInBounds_toArray, List.set_cons_zero, List.set_cons_succ]
                              try simp only [hd1]
                              try simp only [hd2]
                              refine wpAny_take (i := 24) (oi := ⟨some 165, _, _, _, _, _⟩) (v := ?_) rfl (by kernel_rfl) (by kernel_rfl) (by kernel_rfl) (fun _ _ _ h => h) (Or.inl ⟨by rfl, ?_⟩) ?_
                              rotate_left
                              · intro w; go_simp <;> with_reducible rfl
                              simp only [Act.put, List.setIfInBounds_toArray, List.set_cons_zero, List.set_cons_succ]
                              try simp only [hd1]
                              try simp only [hd2]
                              refine wpAny_take (i := 25) (oi := ⟨some 166, _, _, _, _, _⟩) (v := ?_) rfl (by kernel_rfl) (by kernel_rfl) (by kernel_rfl) (fun _ _ _ h => h) (Or.inl ⟨by rfl, ?_⟩) ?_
                              rotate_left
                              · intro w; go_simp <;> with_reducible rfl
                              simp only [Act.put, List.setIfInBounds_toArray, List.set_cons_zero, List.set_cons_succ]
                              try simp only [hd1]
                              try simp only [hd2]
                              refine wpAny_take (i := 27) (oi := ⟨some 168, _, _, _, _, _⟩) (v := ?_) rfl (by kernel_rfl) (by kernel_rfl) (by kernel_rfl) (fun _ _ _ h => h) (Or.inl ⟨by rfl, ?_⟩) ?_
                              rotate_left
                              · intro w; go_simp <;> with_reducible rfl
                              simp only [Act.put, List.setIfInBounds_toArray, List.set_cons_zero, List.set_cons_succ]
                              try simp only [hd1]
                              try simp only [hd2]
                              refine wpAny_take (i := 28) (oi := ⟨some 169, _, _, _, _, _⟩) (v := ?_) rfl (by kernel_rfl) (by kernel_rfl) (by kernel_rfl) (fun _ _ _ h => h) (Or.inl ⟨by rfl, ?_⟩) ?_
                              rotate_left
                              · intro w; go_simp <;> with_reducible rfl
                              simp only [Act.put, List.setIfInBounds_toArray, List.set_cons_zero, List.set_cons_succ]
                              try simp only [hd1]
                              try simp only [hd2]
                              refine wpAny_take (i := 29) (oi := ⟨some 170, _, _, _, _, _⟩) (v := ?_) rfl (by kernel_rfl) (by kernel_rfl) (by kernel_rfl) (fun _ _ _ h => h) (Or.inl ⟨by rfl, ?_⟩) ?_
                              rotate_left
                              · intro w; go_simp <;> with_reducible rfl
                              simp only [Act.put, List.setIfInBounds_toArray, List.set_cons_zero, List.set_cons_succ]
                              try simp only [hd1]
                              try simp only [hd2]
                              refine wpAny_take (i := 30) (oi := ⟨some 171, _, _, _, _, _⟩) (v := ?_) rfl (by kernel_rfl) (by kernel_rfl) (by kernel_rfl) (fun _ _ _ h => h) (Or.inl ⟨by rfl, ?_⟩) ?_
                              rotate_left
                              · intro w; go_simp <;> with_reducible rfl
                              simp only [Act.put, List.setIfInBounds_toArray, List.set_cons_zero, List.set_cons_succ]
                              try simp only [hd1]
                              try simp only [hd2]
                              refine wpAny_ready (rs := [26, 31]) (by kernel_rfl) (by simp) ?_
                              refine AllReady.cons rfl (fun K hK => ?_) ?_
                              · go_simp
                                first | refine hK _ _ ?_ | refine ⟨trivial, hK _ _ ?_⟩ | refine ⟨fun _ _ => trivial, hK _ _ ?_⟩
                                clear hK K
                                refine wpAny_ready (rs := [31]) (by kernel_rfl) (by simp) ?_
                                refine AllReady.cons rfl (fun K hK => ?_) AllReady.nil
                                go_simp
                                first | refine hK _ _ ?_ | refine ⟨trivial, hK _ _ ?_⟩ | refine ⟨fun _ _ => trivial, hK _ _ ?_⟩
                                clear hK K
                                refine wpAny_take (i := 32) (oi := ⟨some 173, _, _, _, _, _⟩) (v := ?_) rfl (by kernel_rfl) (by kernel_rfl) (by kernel_rfl) (fun _ _ _ h => h) (Or.inl ⟨by rfl, ?_⟩) ?_
                                rotate_left
                                · intro w; go_simp <;> with_reducible rfl
                                simp only [Act.put, List.setIfInBounds_toArray, List.set_cons_zero, List.set_cons_succ]
                                try simp only [hd1]
                                try simp only [hd2]
                                refine wpAny_take (i := 33) (oi := ⟨some 174, _, _, _, _, _⟩) (v := ?_) rfl (by kernel_rfl) (by kernel_rfl) (by kernel_rfl) (fun _ _ _ h => h) (Or.inl ⟨by rfl, ?_⟩) ?_
                                rotate_left
                                · intro w; go_simp <;> with_reducible rfl
                                simp only [Act.put, List.setIfInBounds_toArray, List.set_cons_zero, List.set_cons_succ]
                                try simp only [hd1]
                                try simp only [hd2]
                                refine wpAny_done (by kernel_rfl) ?_ _
                                go_wp2_with (fail)
                                go_meet
                                exact ⟨rfl, BB⟩
                              refine AllReady.cons rfl (fun K hK => ?_) AllReady.nil
                              go_simp
                              first | refine hK _ _ ?_ | refine ⟨trivial, hK _ _ ?_⟩ | refine ⟨fun _ _ => trivial, hK _ _ ?_⟩
                              clear hK K
                              refine wpAny_ready (rs := [26]) (by kernel_rfl) (by simp) ?_
                              refine AllReady.cons rfl (fun K hK => ?_) AllReady.nil
                              go_simp
                              first | refine hK _ _ ?_ | refine ⟨trivial, hK _ _ ?_⟩ | refine ⟨fun _ _ => trivial, hK _ _ ?_⟩
                              clear hK K
                              refine wpAny_take (i := 32) (oi := ⟨some 173, _, _, _, _, _⟩) (v := ?_) rfl (by kernel_rfl) (by kernel_rfl) (by kernel_rfl) (fun _ _ _ h => h) (Or.inl ⟨by rfl, ?_⟩) ?_
                              rotate_left
                              · intro w; go_simp <;> with_reducible rfl
                              simp only [Act.put, List.setIfInBounds_toArray, List.set_cons_zero, List.set_cons_succ]
                              try simp only [hd1]
                              try simp only [hd2]
                              refine wpAny_take (i := 33) (oi := ⟨some 174, _, _, _, _, _⟩) (v := ?_) rfl (by kernel_rfl) (by kernel_rfl) (by kernel_rfl) (fun _ _ _ h => h) (Or.inl ⟨by rfl, ?_⟩) ?_
                              rotate_left
                              · intro w; go_simp <;> with_reducible rfl
                              simp only [Act.put, List.setIfInBounds_toArray, List.set_cons_zero, List.set_cons_succ]
                              try simp only [hd1]
                              try simp only [hd2]
                              refine wpAny_done (by kernel_rfl) ?_ _
                              go_wp2_with (fail)
                              go_meet
                              exact ⟨rfl, BB⟩
                            refine AllReady.cons rfl (fun K hK => ?_) AllReady.nil
                            go_simp
                            first | refine hK _ _ ?_ | refine ⟨trivial, hK _ _ ?_⟩ | refine ⟨fun _ _ => trivial, hK _ _ ?_⟩
                            clear hK K
                            refine wpAny_ready (rs := [12]) (by kernel_rfl) (by simp) ?_
                            refine AllReady.cons rfl (fun K hK => ?_) AllReady.nil
                            go_simp
                            refine (kT.out _).mono ?_
                            rintro e wB ⟨rfl, bB⟩
                            have f0 := (bB.cell (p := ⟨pb, po + (k - 1) * 2, none⟩) (by show pb < wr.heap.size; omega)).trans (show wr.drew.cell? ⟨pb, po + (k - 1) * 2, none⟩ = _ from g0)
                            have f2 := (bB.cell (p := ⟨pb, po + k * 2, none⟩) (by show pb < wr.heap.size; omega)).trans (show wr.drew.cell? ⟨pb, po + k * 2, none⟩ = _ from g2)
                            have BB := (Below_dr hB).trans (bB.mono (by show wA.heap.size ≤ wr.heap.size; exact hB.size))
                            first | refine hK _ _ ?_ | refine ⟨trivial, hK _ _ ?_⟩ | refine ⟨fun _ _ => trivial, hK _ _ ?_⟩
                            clear hK K
                            refine wpAny_take (i := 13) (oi := ⟨some 154, _, _, _, _, _⟩) (v := ?_) rfl (by kernel_rfl) (by kernel_rfl) (by kernel_rfl) (fun _ _ _ h => h) (Or.inl ⟨by rfl, ?_⟩) ?_
                            rotate_left
                            · intro w; go_simp <;> with_reducible rfl
                            simp only [Act.put, List.setIfInBounds_toArray, List.set_cons_zero, List.set_cons_succ]
                            try simp only [hd1]
                            try simp only [hd2]
                            refine wpAny_take (i := 19) (oi := ⟨some 160, _, _, _, _, _⟩) (v := ?_) rfl (by kernel_rfl) (by kernel_rfl) (by kernel_rfl) (fun _ _ _ h => h) (Or.inl ⟨by rfl, ?_⟩) ?_
                            rotate_left
                            · intro w; go_simp <;> with_reducible rfl
                            simp only [Act.put, List.setIfInBounds_toArray, List.set_cons_zero, List.set_cons_succ]
                            try simp only [hd1]
                            try simp only [hd2]
                            refine wpAny_take (i := 20) (oi := ⟨some 161, _, _, _, _, _⟩) (v := ?_) rfl (by kernel_rfl) (by kernel_rfl) (by kernel_rfl) (fun _ _ _ h => h) (Or.inl ⟨by rfl, ?_⟩) ?_
                            rotate_left
                            · intro w; go_simp <;> with_reducible rfl
                            simp only [Act.put, List.setIfInBounds_toArray, List.set_cons_zero, List.set_cons_succ]
                            try simp only [hd1]
                            try simp only [hd2]
                            refine wpAny_take (i := 21) (oi := ⟨some 162, _, _, _, _, _⟩) (v := ?_) rfl (by kernel_rfl) (by kernel_rfl) (by kernel_rfl) (fun _ _ _ h => h) (Or.inl ⟨by rfl, ?_⟩) ?_
                            rotate_left
                            · intro w; go_simp <;> with_reducible rfl
                            simp only [Act.put, List.setIfInBounds_toArray, List.set_cons_zero, List.set_cons_succ]
                            try simp only [hd1]
                            try simp only [hd2]
                            refine wpAny_take (i := 22) (oi := ⟨some 163, _, _, _, _, _⟩) (v := ?_) rfl (by kernel_rfl) (by kernel_rfl) (by kernel_rfl) (fun _ _ _ h => h) (Or.inl ⟨by rfl, ?_⟩) ?_
                            rotate_left
                            · intro w; go_simp <;> with_reducible rfl
                            simp only [Act.put, List.setIfInBounds_toArray, List.set_cons_zero, List.set_cons_succ]
                            try simp only [hd1]
                            try simp only [hd2]
                            refine wpAny_take (i := 23) (oi := ⟨some 164, _, _, _, _, _⟩) (v := ?_) rfl (by kernel_rfl) (by kernel_rfl) (by kernel_rfl) (fun _ _ _ h => h) (Or.inl ⟨by rfl, ?_⟩) ?_
                            rotate_left
                            · intro w; go_simp <;> with_reducible rfl
                            simp only [Act.put, List.setIfInBounds_toArray, List.set_cons_zero, List.set_cons_succ]
                            try simp only [hd1]
                            try simp only [hd2]
                            refine wpAny_take (i := 24) (oi := ⟨some 165, _, _, _, _, _⟩) (v := ?_) rfl (by kernel_rfl) (by kernel_rfl) (by kernel_rfl) (fun _ _ _ h => h) (Or.inl ⟨by rfl, ?_⟩) ?_
                            rotate_left
                            · intro w; go_simp <;> with_reducible rfl
                            simp only [Act.put, List.setIfInBounds_toArray, List.set_cons_zero, List.set_cons_succ]
                            try simp only [hd1]
                            try simp only [hd2]
                            refine wpAny_take (i := 25) (oi := ⟨some 166, _, _, _, _, _⟩) (v := ?_) rfl (by kernel_rfl) (by kernel_rfl) (by kernel_rfl) (fun _ _ _ h => h) (Or.inl ⟨by rfl, ?_⟩) ?_
                            rotate_left
                            · intro w; go_simp <;> with_reducible rfl
                            simp only [Act.put, List.setIfInBounds_toArray, List.set_cons_zero, List.set_cons_succ]
                            try simp only [hd1]
                            try simp only [hd2]
                            refine wpAny_take (i := 27) (oi := ⟨some 168, _, _, _, _, _⟩) (v := ?_) rfl (by kernel_rfl) (by kernel_rfl) (by kernel_rfl) (fun _ _ _ h => h) (Or.inl ⟨by rfl, ?_⟩) ?_
                            rotate_left
                            · intro w; go_simp <;> with_reducible rfl
                            simp only [Act.put, List.setIfInBounds_toArray, List.set_cons_zero, List.set_cons_succ]
                            try simp only [hd1]
                            try simp only [hd2]
                            refine wpAny_take (i := 28) (oi := ⟨some 169, _, _, _, _, _⟩) (v := ?_) rfl (by kernel_rfl) (by kernel_rfl) (by kernel_rfl) (fun _ _ _ h => h) (Or.inl ⟨by rfl, ?_⟩) ?_
                            rotate_left
                            · intro w; go_simp <;> with_reducible rfl
                            simp only [Act.put, List.setIfInBounds_toArray, List.set_cons_zero, List.set_cons_succ]
                            try simp only [hd1]
                            try simp only [hd2]
                            refine wpAny_take (i := 29) (oi := ⟨some 170, _, _, _, _, _⟩) (v := ?_) rfl (by kernel_rfl) (by kernel_rfl) (by kernel_rfl) (fun _ _ _ h => h) (Or.inl ⟨by rfl, ?_⟩) ?_
                            rotate_left
                            · intro w; go_simp <;> with_reducible rfl
                            simp only [Act.put, List.setIfInBounds_toArray, List.set_cons_zero, List.set_cons_succ]
                            try simp only [hd1]
                            try simp only [hd2]
                            refine wpAny_take (i := 30) (oi := ⟨some 171, _, _, _, _, _⟩) (v := ?_) rfl (by kernel_rfl) (by kernel_rfl) (by kernel_rfl) (fun _ _ _ h => h) (Or.inl ⟨by rfl, ?_⟩) ?_
                            rotate_left
                            · intro w; go_simp <;> with_reducible rfl
                            simp only [Act.put, List.setIfInBounds_toArray, List.set_cons_zero, List.set_cons_succ]
                            try simp only [hd1]
                            try simp only [hd2]
                            refine wpAny_ready (rs := [26, 31]) (by kernel_rfl) (by simp) ?_
                            refine AllReady.cons rfl (fun K hK => ?_) ?_
                            · go_simp
                              first | refine hK _ _ ?_ | refine ⟨trivial, hK _ _ ?_⟩ | refine ⟨fun _ _ => trivial, hK _ _ ?_⟩
                              clear hK K
                              refine wpAny_ready (rs := [31]) (by kernel_rfl) (by simp) ?_
                              refine AllReady.cons rfl (fun K hK => ?_) AllReady.nil
                              go_simp
                              first | refine hK _ _ ?_ | refine ⟨trivial, hK _ _ ?_⟩ | refine ⟨fun _ _ => trivial, hK _ _ ?_⟩
                              clear hK K
                              refine wpAny_take (i := 32) (oi := ⟨some 173, _, _, _, _, _⟩) (v := ?_) rfl (by kernel_rfl) (by kernel_rfl) (by kernel_rfl) (fun _ _ _ h => h) (Or.inl ⟨by rfl, ?_⟩) ?_
                              rotate_left
                              · intro w; go_simp <;> with_reducible rfl
                              simp only [Act.put, List.setIfInBounds_toArray, List.set_cons_zero, List.set_cons_succ]
                              try simp only [hd1]
                              try simp only [hd2]
                              refine wpAny_take (i := 33) (oi := ⟨some 174, _, _, _, _, _⟩) (v := ?_) rfl (by kernel_rfl) (by kernel_rfl) (by kernel_rfl) (fun _ _ _ h => h) (Or.inl ⟨by rfl, ?_⟩) ?_
                              rotate_left
                              · intro w; go_simp <;> with_reducible rfl
                              simp only [Act.put, List.setIfInBounds_toArray, List.set_cons_zero, List.set_cons_succ]
                              try simp only [hd1]
                              try simp only [hd2]
                              refine wpAny_done (by kernel_rfl) ?_ _
                              go_wp2_with (fail)
                              go_meet
                              exact ⟨rfl, BB⟩
                            refine AllReady.cons rfl (fun K hK => ?_) AllReady.nil
                            go_simp
                            first | refine hK _ _ ?_ | refine ⟨trivial, hK _ _ ?_⟩ | refine ⟨fun _ _ => trivial, hK _ _ ?_⟩
                            clear hK K
                            refine wpAny_ready (rs := [26]) (by kernel_rfl) (by simp) ?_
                            refine AllReady.cons rfl (fun K hK => ?_) AllReady.nil
                            go_simp
                            first | refine hK _ _ ?_ | refine ⟨trivial, hK _ _ ?_⟩ | refine ⟨fun _ _ => trivial, hK _ _ ?_⟩
                            clear hK K
                            refine wpAny_take (i := 32) (oi := ⟨some 173, _, _, _, _, _⟩) (v := ?_) rfl (by kernel_rfl) (by kernel_rfl) (by kernel_rfl) (fun _ _ _ h => h) (Or.inl ⟨by rfl, ?_⟩) ?_
                            rotate_left
                            · intro w; go_simp <;> with_reducible rfl
                            simp only [Act.put, List.setIfInBounds_toArray, List.set_cons_zero, List.set_cons_succ]
                            try simp only [hd1]
                            try simp only [hd2]
                            refine wpAny_take (i := 33) (oi := ⟨some 174, _, _, _, _, _⟩) (v := ?_) rfl (by kernel_rfl) (by kernel_rfl) (by kernel_rfl) (fun _ _ _ h => h) (Or.inl ⟨by rfl, ?_⟩) ?_
                            rotate_left
                            · intro w; go_simp <;> with_reducible rfl
                            simp only [Act.put, List.setIfInBounds_toArray, List.set_cons_zero, List.set_cons_succ]
                            try simp only [hd1]
                            try simp only [hd2]
                            refine wpAny_done (by kernel_rfl) ?_ _
                            go_wp2_with (fail)
                            go_meet
                            exact ⟨rfl, BB⟩
                          refine AllReady.cons rfl (fun K hK => ?_) AllReady.nil
                          go_simp
                          first | refine hK _ _ ?_ | refine ⟨trivial, hK _ _ ?_⟩ | refine ⟨fun _ _ => trivial, hK _ _ ?_⟩
                          clear hK K
                          refine wpAny_ready (rs := [11]) (by kernel_rfl) (by simp) ?_
                          refine AllReady.cons rfl (fun K hK => ?_) AllReady.nil
                          go_simp
                          first | refine hK _ _ ?_ | refine ⟨trivial, hK _ _ ?_⟩ | refine ⟨fun _ _ => trivial, hK _ _ ?_⟩
                          clear hK K
                          refine wpAny_ready (rs := [12]) (by kernel_rfl) (by simp) ?_
                          refine AllReady.cons rfl (fun K hK => ?_) AllReady.nil
                          go_simp
                          refine (kT.out _).mono ?_
                          rintro e wB ⟨rfl, bB⟩
                          have f0 := (bB.cell (p := ⟨pb, po + (k - 1) * 2, none⟩) (by show pb < wr.heap.size; omega)).trans (show wr.drew.cell? ⟨pb, po + (k - 1) * 2, none⟩ = _ from g0)
                          have f2 := (bB.cell (p := ⟨pb, po + k * 2, none⟩) (by show pb < wr.heap.size; omega)).trans (show wr.drew.cell? ⟨pb, po + k * 2, none⟩ = _ from g2)
                          have BB := (Below_dr hB).trans (bB.mono (by show wA.heap.size ≤ wr.heap.size; exact hB.size))
                          first | refine hK _ _ ?_ | refine ⟨trivial, hK _ _ ?_⟩ | refine ⟨fun _ _ => trivial, hK _ _ ?_⟩
                          clear hK K
                          refine wpAny_take (i := 13) (oi := ⟨some 154, _, _, _, _, _⟩) (v := ?_) rfl (by kernel_rfl) (by kernel_rfl) (by kernel_rfl) (fun _ _ _ h => h) (Or.inl ⟨by rfl, ?_⟩) ?_
                          rotate_left
                          · intro w; go_simp <;> with_reducible rfl
                          simp only [Act.put, List.setIfInBounds_toArray, List.set_cons_zero, List.set_cons_succ]
                          try simp only [hd1]
                          try simp only [hd2]
                          refine wpAny_take (i := 19) (oi := ⟨some 160, _, _, _, _, _⟩) (v := ?_) rfl (by kernel_rfl) (by kernel_rfl) (by kernel_rfl) (fun _ _ _ h => h) (Or.inl ⟨by rfl, ?_⟩) ?_
                          rotate_left
                          · intro w; go_simp <;> with_reducible rfl
                          simp only [Act.put, List.setIfInBounds_toArray, List.set_cons_zero, List.set_cons_succ]
                          try simp only [hd1]
                          try simp only [hd2]
                          refine wpAny_take (i := 20) (oi := ⟨some 161, _, _, _, _, _⟩) (v := ?_) rfl (by kernel_rfl) (by kernel_rfl) (by kernel_rfl) (fun _ _ _ h => h) (Or.inl ⟨by rfl, ?_⟩) ?_
                          rotate_left
                          · intro w; go_simp <;> with_reducible rfl
                          simp only [Act.put, List.setIfInBounds_toArray, List.set_cons_zero, List.set_cons_succ]
                          try simp only [hd1]
                          try simp only [hd2]
                          refine wpAny_take (i := 21) (oi := ⟨some 162, _, _, _, _, _⟩) (v := ?_) rfl (by kernel_rfl) (by kernel_rfl) (by kernel_rfl) (fun _ _ _ h => h) (Or.inl ⟨by rfl, ?_⟩) ?_
                          rotate_left
                          · intro w; go_simp <;> with_reducible rfl
                          simp only [Act.put, List.setIfInBounds_toArray, List.set_cons_zero, List.set_cons_succ]
                          try simp only [hd1]
                          try simp only [hd2]
                          refine wpAny_take (i := 22) (oi := ⟨some 163, _, _, _, _, _⟩) (v := ?_) rfl (by kernel_rfl) (by kernel_rfl) (by kernel_rfl) (fun _ _ _ h => h) (Or.inl ⟨by rfl, ?_⟩) ?_
                          rotate_left
                          · intro w; go_simp <;> with_reducible rfl
                          simp only [Act.put, List.setIfInBounds_toArray, List.set_cons_zero, List.set_cons_succ]
                          try simp only [hd1]
                          try simp only [hd2]
                          refine wpAny_take (i := 23) (oi := ⟨some 164, _, _, _, _, _⟩) (v := ?_) rfl (by kernel_rfl) (by kernel_rfl) (by kernel_rfl) (fun _ _ _ h => h) (Or.inl ⟨by rfl, ?_⟩) ?_
                          rotate_left
                          · intro w; go_simp <;> with_reducible rfl
                          simp only [Act.put, List.setIfInBounds_toArray, List.set_cons_zero, List.set_cons_succ]
                          try simp only [hd1]
                          try simp only [hd2]
                          refine wpAny_take (i := 24) (oi := ⟨some 165, _, _, _, _, _⟩) (v := ?_) rfl (by kernel_rfl) (by kernel_rfl) (by kernel_rfl) (fun _ _ _ h => h) (Or.inl ⟨by rfl, ?_⟩) ?_
                          rotate_left
                          · intro w; go_simp <;> with_reducible rfl
                          simp only [Act.put, List.setIfInBounds_toArray, List.set_cons_zero, List.set_cons_succ]
                          try simp only [hd1]
                          try simp only [hd2]
                          refine wpAny_take (i := 25) (oi := ⟨some 166, _, _, _, _, _⟩) (v := ?_) rfl (by kernel_rfl) (by kernel_rfl) (by kernel_rfl) (fun _ _ _ h => h) (Or.inl ⟨by rfl, ?_⟩) ?_
                          rotate_left
                          · intro w; go_simp <;> with_reducible rfl
                          simp only [Act.put, List.setIfInBounds_toArray, List.set_cons_zero, List.set_cons_succ]
                          try simp only [hd1]
                          try simp only [hd2]
                          refine wpAny_take (i := 27) (oi := ⟨some 168, _, _, _, _, _⟩) (v := ?_) rfl (by kernel_rfl) (by kernel_rfl) (by kernel_rfl) (fun _ _ _ h => h) (Or.inl ⟨by rfl, ?_⟩) ?_
                          rotate_left
                          · intro w; go_simp <;> with_reducible rfl
                          simp only [Act.put, List.setIfInBounds_toArray, List.set_cons_zero, List.set_cons_succ]
                          try simp only [hd1]
                          try simp only [hd2]
                          refine wpAny_take (i := 28) (oi := ⟨some 169, _, _, _, _, _⟩) (v := ?_) rfl (by kernel_rfl) (by kernel_rfl) (by kernel_rfl) (fun _ _ _ h => h) (Or.inl ⟨by rfl, ?_⟩) ?_
                          rotate_left
                          · intro w; go_simp <;> with_reducible rfl
                          simp only [Act.put, List.setIfInBounds_toArray, List.set_cons_zero, List.set_cons_succ]
                          try simp only [hd1]
                          try simp only [hd2]
                          refine wpAny_take (i := 29) (oi := ⟨some 170, _, _, _, _, _⟩) (v := ?_) rfl (by kernel_rfl) (by kernel_rfl) (by kernel_rfl) (fun _ _ _ h => h) (Or.inl ⟨by rfl, ?_⟩) ?_
                          rotate_left
                          · intro w; go_simp <;> with_reducible rfl
                          simp only [Act.put, List.setIfInBounds_toArray, List.set_cons_zero, List.set_cons_succ]
                          try simp only [hd1]
                          try simp only [hd2]
                          refine wpAny_take (i := 30) (oi := ⟨some 171, _, _, _, _, _⟩) (v := ?_) rfl (by kernel_rfl) (by kernel_rfl) (by kernel_rfl) (fun _ _ _ h => h) (Or.inl ⟨by rfl, ?_⟩) ?_
                          rotate_left
                          · intro w; go_simp <;> with_reducible rfl
                          simp only [Act.put, List.setIfInBounds_toArray, List.set_cons_zero, List.set_cons_succ]
                          try simp only [hd1]
                          try simp only [hd2]
                          refine wpAny_ready (rs := [26, 31]) (by kernel_rfl) (by simp) ?_
                          refine AllReady.cons rfl (fun K hK => ?_) ?_
                          · go_simp
                            first | refine hK _ _ ?_ | refine ⟨trivial, hK _ _ ?_⟩ | refine ⟨fun _ _ => trivial, hK _ _ ?_⟩
                            clear hK K
                            refine wpAny_ready (rs := [31]) (by kernel_rfl) (by simp) ?_
                            refine AllReady.cons rfl (fun K hK => ?_) AllReady.nil
                            go_simp
                            first | refine hK _ _ ?_ | refine ⟨trivial, hK _ _ ?_⟩ | refine ⟨fun _ _ => trivial, hK _ _ ?_⟩
                            clear hK K
                            refine wpAny_take (i := 32) (oi := ⟨some 173, _, _, _, _, _⟩) (v := ?_) rfl (by kernel_rfl) (by kernel_rfl) (by kernel_rfl) (fun _ _ _ h => h) (Or.inl ⟨by rfl, ?_⟩) ?_
                            rotate_left
                            · intro w; go_simp <;> with_reducible rfl
                            simp only [Act.put, List.setIfInBounds_toArray, List.set_cons_zero, List.set_cons_succ]
                            try simp only [hd1]
                            try simp only [hd2]
                            refine wpAny_take (i := 33) (oi := ⟨some 174, _, _, _, _, _⟩) (v := ?_) rfl (by kernel_rfl) (by kernel_rfl) (by kernel_rfl) (fun _ _ _ h => h) (Or.inl ⟨by rfl, ?_⟩) ?_
                            rotate_left
                            · intro w; go_simp <;> with_reducible rfl
                            simp only [Act.put, List.setIfInBounds_toArray, List.set_cons_zero, List.set_cons_succ]
                            try simp only [hd1]
                            try simp only [hd2]
                            refine wpAny_done (by kernel_rfl) ?_ _
                            go_wp2_with (fail)
                            go_meet
                            exact ⟨rfl, BB⟩
                          refine AllReady.cons rfl (fun K hK => ?_) AllReady.nil
                          go_simp
                          first | refine hK _ _ ?_ | refine ⟨trivial, hK _ _ ?_⟩ | refine ⟨fun _ _ => trivial, hK _ _ ?_⟩
                          clear hK K
                          refine wpAny_ready (rs := [26]) (by kernel_rfl) (by simp) ?_
                          refine AllReady.cons rfl (fun K hK => ?_) AllReady.nil
                          go_simp
                          first | refine hK _ _ ?_ | refine ⟨trivial, hK _ _ ?_⟩ | refine ⟨fun _ _ => trivial, hK _ _ ?_⟩
                          clear hK K
                          refine wpAny_take (i := 32) (oi := ⟨some 173, _, _, _, _, _⟩) (v := ?_) rfl (by kernel_rfl) (by kernel_rfl) (by kernel_rfl) (fun _ _ _ h => h) (Or.inl ⟨by rfl, ?_⟩) ?_
                          rotate_left
                          · intro w; go_simp <;> with_reducible rfl
                          simp only [Act.put, List.setIfInBounds_toArray, List.set_cons_zero, List.set_cons_succ]
                          try simp only [hd1]
                          try simp only [hd2]
                          refine wpAny_take (i := 33) (oi := ⟨some 174, _, _, _, _, _⟩) (v := ?_) rfl (by kernel_rfl) (by kernel_rfl) (by kernel_rfl) (fun _ _ _ h => h) (Or.inl ⟨by rfl, ?_⟩) ?_
                          rotate_left
                          · intro w; go_simp <;> with_reducible rfl
                          simp only [Act.put, List.setIfInBounds_toArray, List.set_cons_zero, List.set_cons_succ]
                          try simp only [hd1]
                          try simp only [hd2]
                          refine wpAny_done (by kernel_rfl) ?_ _
                          go_wp2_with (fail)
                          go_meet
                          exact ⟨rfl, BB⟩
                        refine AllReady.cons rfl (fun K hK => ?_) ?_
                        · go_simp
                          first | refine hK _ _ ?_ | refine ⟨trivial, hK _ _ ?_⟩ | refine ⟨fun _ _ => trivial, hK _ _ ?_⟩
                          clear hK K
                          refine wpAny_ready (rs := [5, 12, 18]) (by kernel_rfl) (by simp) ?_
                          refine AllReady.cons rfl (fun K hK => ?_) ?_
                          · go_simp
                            first | refine hK _ _ ?_ | refine ⟨trivial, hK _ _ ?_⟩ | refine ⟨fun _ _ => trivial, hK _ _ ?_⟩
                            clear hK K
                            refine wpAny_ready (rs := [12, 18]) (by kernel_rfl) (by simp) ?_
                            refine AllReady.cons rfl (fun K hK => ?_) ?_
                            · go_simp
                              refine (kT.out _).mono ?_
                              rintro e wB ⟨rfl, bB⟩
                              have f0 := (bB.cell (p := ⟨pb, po + (k - 1) * 2, none⟩) (by show pb < wr.heap.size; omega)).trans (show wr.drew.cell? ⟨pb, po + (k - 1) * 2, none⟩ = _ from g0)
                              have f2 := (bB.cell (p := ⟨pb, po + k * 2, none⟩) (by show pb < wr.heap.size; omega)).trans (show wr.drew.cell? ⟨pb, po + k * 2, none⟩ = _ from g2)
                              have BB := (Below_dr hB).trans (bB.mono (by show wA.heap.size ≤ wr.heap.size; exact hB.size))
                              first | refine hK _ _ ?_ | refine ⟨trivial, hK _ _ ?_⟩ | refine ⟨fun _ _ => trivial, hK _ _ ?_⟩
                              clear hK K
                              refine wpAny_take (i := 13) (oi := ⟨some 154, _, _, _, _, _⟩) (v := ?_) rfl (by kernel_rfl) (by kernel_rfl) (by kernel_rfl) (fun _ _ _ h => h) (Or.inl ⟨by rfl, ?_⟩) ?_
                              rotate_left
                              · intro w; go_simp <;> with_reducible rfl
                              simp only [Act.put, List.setIfInBounds_toArray, List.set_cons_zero, List.set_cons_succ]
                              try simp only [hd1]
                              try simp only [hd2]
                              refine wpAny_ready (rs := [18]) (by kernel_rfl) (by simp) ?_
                              refine AllReady.cons rfl (fun K hK => ?_) AllReady.nil
                              go_simp
                              first | refine hK _ _ ?_ | refine ⟨trivial, hK _ _ ?_⟩ | refine ⟨fun _ _ => trivial, hK _ _ ?_⟩
                              clear hK K
                              refine wpAny_take (i := 19) (oi := ⟨some 160, _, _, _, _, _⟩) (v := ?_) rfl (by kernel_rfl) (by kernel_rfl) (by kernel_rfl) (fun _ _ _ h => h) (Or.inl ⟨by rfl, ?_⟩) ?_
                              rotate_left
                              · intro w; go_simp <;> with_reducible rfl
                              simp only [Act.put, List.setIfInBounds_toArray, List.set_cons_zero, List.set_cons_succ]
                              try simp only [hd1]
                              try simp only [hd2]
                              refine wpAny_take (i := 20) (oi := ⟨some 161, _, _, _, _, _⟩) (v := ?_) rfl (by kernel_rfl) (by kernel_rfl) (by kernel_rfl) (fun _ _ _ h => h) (Or.inl ⟨by rfl, ?_⟩) ?_
                              rotate_left
                              · intro w; go_simp <;> with_reducible rfl
                              simp only [Act.put, List.setIfInBounds_toArray, List.set_cons_zero, List.set_cons_succ]
                              try simp only [hd1]
                              try simp only [hd2]
                              refine wpAny_take (i := 21) (oi := ⟨some 162, _, _, _, _, _⟩) (v := ?_) rfl (by kernel_rfl) (by kernel_rfl) (by kernel_rfl) (fun _ _ _ h => h) (Or.inl ⟨by rfl, ?_⟩) ?_
                              rotate_left
                              · intro w; go_simp <;> with_reducible rfl
                              simp only [Act.put, List.setIfInBounds_toArray, List.set_cons_zero, List.set_cons_succ]
                              try simp only [hd1]
                              try simp only [hd2]
                              refine wpAny_take (i := 22) (oi := ⟨some 163, _, _, _, _, _⟩) (v := ?_) rfl (by kernel_rfl) (by kernel_rfl) (by kernel_rfl) (fun _ _ _ h => h) (Or.inl ⟨by rfl, ?_⟩) ?_
                              rotate_left
                              · intro w; go_simp <;> with_reducible rfl
                              simp only [Act.put, List.setIfInBounds_toArray, List.set_cons_zero, List.set_cons_succ]
                              try simp only [hd1]
                              try simp only [hd2]
                              refine wpAny_take (i := 23) (oi := ⟨some 164, _, _, _, _, _⟩) (v := ?_) rfl (by kernel_rfl) (by kernel_rfl) (by kernel_rfl) (fun _ _ _ h => h) (Or.inl ⟨by rfl, ?_⟩) ?_
                              rotate_left
                              · intro w; go_simp <;> with_reducible rfl
                              simp only [Act.put, List.setIfInBounds_toArray, List.set_cons_zero, List.set_cons_succ]
                              try simp only [hd1]
                              try simp only [hd2]
                              refine wpAny_take (i := 24) (oi := ⟨some 165, _, _, _, _, _⟩) (v := ?_) rfl (by kernel_rfl) (by kernel_rfl) (by kernel_rfl) (fun _ _ _ h => h) (Or.inl ⟨by rfl, ?_⟩) ?_
                              rotate_left
                              · intro w; go_simp <;> with_reducible rfl
                              simp only [Act.put, List.setIfInBounds_toArray, List.set_cons_zero, List.set_cons_succ]
                              try simp only [hd1]
                              try simp only [hd2]
                              refine wpAny_take (i := 25) (oi := ⟨some 166, _, _, _, _, _⟩) (v := ?_) rfl (by kernel_rfl) (by kernel_rfl) (by kernel_rfl) (fun _ _ _ h => h) (Or.inl ⟨by rfl, ?_⟩) ?_
                              rotate_left
                              · intro w; go_simp <;> with_reducible rfl
                              simp only [Act.put, List.setIfInBounds_toArray, List.set_cons_zero, List.set_cons_succ]
                              try simp only [hd1]
                              try simp only [hd2]
                              refine wpAny_take (i := 27) (oi := ⟨some 168, _, _, _, _, _⟩) (v := ?_) rfl (by kernel_rfl) (by kernel_rfl) (by kernel_rfl) (fun _ _ _ h => h) (Or.inl ⟨by rfl, ?_⟩) ?_
                              rotate_left
                              · intro w; go_simp <;> with_reducible rfl
                              simp only [Act.put, List.setIfInBounds_toArray, List.set_cons_zero, List.set_cons_succ]
                              try simp only [hd1]
                              try simp only [hd2]
                              refine wpAny_take (i := 28) (oi := ⟨some 169, _, _, _, _, _⟩) (v := ?_) rfl (by kernel_rfl) (by kernel_rfl) (by kernel_rfl) (fun _ _ _ h => h) (Or.inl ⟨by rfl, ?_⟩) ?_
                              rotate_left
                              · intro w; go_simp <;> with_reducible rfl
                              simp only [Act.put, List.setIfInBounds_toArray, List.set_cons_zero, List.set_cons_succ]
                              try simp only [hd1]
                              try simp only [hd2]
                              refine wpAny_take (i := 29) (oi := ⟨some 170, _, _, _, _, _⟩) (v := ?_) rfl (by kernel_rfl) (by kernel_rfl) (by kernel_rfl) (fun _ _ _ h => h) (Or.inl ⟨by rfl, ?_⟩) ?_
                              rotate_left
                              · intro w; go_simp <;> with_reducible rfl
                              simp only [Act.put, List.setIfInBounds_toArray, List.set_cons_zero, List.set_cons_succ]
                              try simp only [hd1]
                              try simp only [hd2]
                              refine wpAny_take (i := 30) (oi := ⟨some 171, _, _, _, _, _⟩) (v := ?_) rfl (by kernel_rfl) (by kernel_rfl) (by kernel_rfl) (fun _ _ _ h => h) (Or.inl ⟨by rfl, ?_⟩) ?_
                              rotate_left
                              · intro w; go_simp <;> with_reducible rfl
                              simp only [Act.put, List.setIfInBounds_toArray, List.set_cons_zero, List.set_cons_succ]
                              try simp only [hd1]
                              try simp only [hd2]
                              refine wpAny_ready (rs := [26, 31]) (by kernel_rfl) (by simp) ?_
                              refine AllReady.cons rfl (fun K hK => ?_) ?_
                              · go_simp
                                first | refine hK _ _ ?_ | refine ⟨trivial, hK _ _ ?_⟩ | refine ⟨fun _ _ => trivial, hK _ _ ?_⟩
                                clear hK K
                                refine wpAny_ready (rs := [31]) (by kernel_rfl) (by simp) ?_
                                refine AllReady.cons rfl (fun K hK => ?_) AllReady.nil
                                go_simp
                                first | refine hK _ _ ?_ | refine ⟨trivial, hK _ _ ?_⟩ | refine ⟨fun _ _ => trivial, hK _ _ ?_⟩
                                clear hK K
                                refine wpAny_take (i := 32) (oi := ⟨some 173, _, _, _, _, _⟩) (v := ?_) rfl (by kernel_rfl) (by kernel_rfl) (by kernel_rfl) (fun _ _ _ h => h) (Or.inl ⟨by rfl, ?_⟩) ?_
                                rotate_left
                                · intro w; go_simp <;> with_reducible rfl
                                simp only [Act.put, List.setIfInBounds_toArray, List.set_cons_zero, List.set_cons_succ]
                                try simp only [hd1]
                                try simp only [hd2]
                                refine wpAny_take (i := 33) (oi := ⟨some 174, _, _, _, _, _⟩) (v := ?_) rfl (by kernel_rfl) (by kernel_rfl) (by kernel_rfl) (fun _ _ _ h => h) (Or.inl ⟨by rfl, ?_⟩) ?_
                                rotate_left
                                · intro w; go_simp <;> with_reducible rfl
                                simp only [Act.put, List.setIfInBounds_toArray, List.set_cons_zero, List.set_cons_succ]
                                try simp only [hd1]
                                try simp only [hd2]
                                refine wpAny_done (by kernel_rfl) ?_ _
                                go_wp2_with (fail)
                                go_meet
                                exact ⟨rfl, BB⟩
                              refine AllReady.cons rfl (fun K hK => ?_) AllReady.nil
                              go_simp
                              first | refine hK _ _ ?_ | refine ⟨trivial, hK _ _ ?_⟩ | refine ⟨fun _ _ => trivial, hK _ _ ?_⟩
                              clear hK K
                              refine wpAny_ready (rs := [26]) (by kernel_rfl) (by simp) ?_
                              refine AllReady.cons rfl (fun K hK => ?_) AllReady.nil
                              go_simp
                              first | refine hK _ _ ?_ | refine ⟨trivial, hK _ _ ?_⟩ | refine ⟨fun _ _ => trivial, hK _ _ ?_⟩
                              clear hK K
                              refine wpAny_take (i := 32) (oi := ⟨some 173, _, _, _, _, _⟩) (v := ?_) rfl (by kernel_rfl) (by kernel_rfl) (by kernel_rfl) (fun _ _ _ h => h) (Or.inl ⟨by rfl, ?_⟩) ?_
                              rotate_left
                              · intro w; go_simp <;> with_reducible rfl
                              simp only [Act.put, List.setIfInBounds_toArray, List.set_cons_zero, List.set_cons_succ]
                              try simp only [hd1]
                              try simp only [hd2]
                              refine wpAny_take (i := 33) (oi := ⟨some 174, _, _, _, _, _⟩) (v := ?_) rfl (by kernel_rfl) (by kernel_rfl) (by kernel_rfl) (fun _ _ _ h => h) (Or.inl ⟨by rfl, ?_⟩) ?_
                              rotate_left
                              · intro w; go_simp <;> with_reducible rfl
                              simp only [Act.put, List.setIfInBounds_toArray, List.set_cons_zero, List.set_cons_succ]
                              try simp only [hd1]
                              try simp only [hd2]
                              refine wpAny_done (by kernel_rfl) ?_ _
                              go_wp2_with (fail)
                              go_meet
                              exact ⟨rfl, BB⟩
                            refine AllReady.cons rfl (fun K hK => ?_) AllReady.nil
                            go_simp
                            first | refine hK _ _ ?_ | refine ⟨trivial, hK _ _ ?_⟩ | refine ⟨fun _ _ => trivial, hK _ _ ?_⟩
                            clear hK K
                            refine wpAny_ready (rs := [12]) (by kernel_rfl) (by simp) ?_
                            refine AllReady.cons rfl (fun K hK => ?_) AllReady.nil
                            go_simp
                            refine (kT.out _).mono ?_
                            rintro e wB ⟨rfl, bB⟩
                            have f0 := (bB.cell (p := ⟨pb, po + (k - 1) * 2, none⟩) (by show pb < wr.heap.size; omega)).trans (show wr.drew.cell? ⟨pb, po + (k - 1) * 2, none⟩ = _ from g0)
                            have f2 := (bB.cell (p := ⟨pb, po + k * 2, none⟩) (by show pb < wr.heap.size; omega)).trans (show wr.drew.cell? ⟨pb, po + k * 2, none⟩ = _ from g2)
                            have BB := (Below_dr hB).trans (bB.mono (by show wA.heap.size ≤ wr.heap.size; exact hB.size))
                            first | refine hK _ _ ?_ | refine ⟨trivial, hK _ _ ?_⟩ | refine ⟨fun _ _ => trivial, hK _ _ ?_⟩
                            clear hK K
                            refine wpAny_take (i := 13) (oi := ⟨some 154, _, _, _, _, _⟩) (v := ?_) rfl (by kernel_rfl) (by kernel_rfl) (by kernel_rfl) (fun _ _ _ h => h) (Or.inl ⟨by rfl, ?_⟩) ?_
                            rotate_left
                            · intro w; go_simp <;> with_reducible rfl
                            simp only [Act.put, List.setIfInBounds_toArray, List.set_cons_zero, List.set_cons_succ]
                            try simp only [hd1]
                            try simp only [hd2]
                            refine wpAny_take (i := 19) (oi := ⟨some 160, _, _, _, _, _⟩) (v := ?_) rfl (by kernel_rfl) (by kernel_rfl) (by kernel_rfl) (fun _ _ _ h => h) (Or.inl ⟨by rfl, ?_⟩) ?_
                            rotate_left
                            · intro w; go_simp <;> with_reducible rfl
                            simp only [Act.put, List.setIfInBounds_toArray, List.set_cons_zero, List.set_cons_succ]
                            try simp only [hd1]
                            try simp only [hd2]
                            refine wpAny_take (i := 20) (oi := ⟨some 161, _, _, _, _, _⟩) (v := ?_) rfl (by kernel_rfl) (by kernel_rfl) (by kernel_rfl) (fun _ _ _ h => h) (Or.inl ⟨by rfl, ?_⟩) ?_
                            rotate_left
                            · intro w; go_simp <;> with_reducible rfl
                            simp only [Act.put, List.setIfInBounds_toArray, List.set_cons_zero, List.set_cons_succ]
                            try simp only [hd1]
                            try simp only [hd2]
                            refine wpAny_take (i := 21) (oi := ⟨some 162, _, _, _, _, _⟩) (v := ?_) rfl (by kernel_rfl) (by kernel_rfl) (by kernel_rfl) (fun _ _ _ h => h) (Or.inl ⟨by rfl, ?_⟩) ?_
                            rotate_left
                            · intro w; go_simp <;> with_reducible rfl
                            simp only [Act.put, List.setIfInBounds_toArray, List.set_cons_zero, List.set_cons_succ]
                            try simp only [hd1]
                            try simp only [hd2]
                            refine wpAny_take (i := 22) (oi := ⟨some 163, _, _, _, _, _⟩) (v := ?_) rfl (by kernel_rfl) (by kernel_rfl) (by kernel_rfl) (fun _ _ _ h => h) (Or.inl ⟨by rfl, ?_⟩) ?_
                            rotate_left
                            · intro w; go_simp <;> with_reducible rfl
                            simp only [Act.put, List.setIfInBounds_toArray, List.set_cons_zero, List.set_cons_succ]
                            try simp only [hd1]
                            try simp only [hd2]
                            refine wpAny_take (i := 23) (oi := ⟨some 164, _, _, _, _, _⟩) (v := ?_) rfl (by kernel_rfl) (by kernel_rfl) (by kernel_rfl) (fun _ _ _ h => h) (Or.inl ⟨by rfl, ?_⟩) ?_
                            rotate_left
                            · intro w; go_simp <;> with_reducible rfl
                            simp only [Act.put, List.setIfInBounds_toArray, List.set_cons_zero, List.set_cons_succ]
                            try simp only [hd1]
                            try simp only [hd2]
                            refine wpAny_take (i := 24) (oi := ⟨some 165, _, _, _, _, _⟩) (v := ?_) rfl (by kernel_rfl) (by kernel_rfl) (by kernel_rfl) (fun _ _ _ h => h) (Or.inl ⟨by rfl, ?_⟩) ?_
                            rotate_left
                            · intro w; go_simp <;> with_reducible rfl
                            simp only [Act.put, List.setIfInBounds_toArray, List.set_cons_zero, List.set_cons_succ]
                            try simp only [hd1]
                            try simp only [hd2]
                            refine wpAny_take (i := 25) (oi := ⟨some 166, _, _, _, _, _⟩) (v := ?_) rfl (by kernel_rfl) (by kernel_rfl) (by kernel_rfl) (fun _ _ _ h => h) (Or.inl ⟨by rfl, ?_⟩) ?_
                            rotate_left
                            · intro w; go_simp <;> with_reducible rfl
                            simp only [Act.put, List.setIfInBounds_toArray, List.set_cons_zero, List.set_cons_succ]
                            try simp only [hd1]
                            try simp only [hd2]
                            refine wpAny_take (i := 27) (oi := ⟨some 168, _, _, _, _, _⟩) (v := ?_) rfl (by kernel_rfl) (by kernel_rfl) (by kernel_rfl) (fun _ _ _ h => h) (Or.inl ⟨by rfl, ?_⟩) ?_
                            rotate_left
                            · intro w; go_simp <;> with_reducible rfl
                            simp only [Act.put, List.setIfInBounds_toArray, List.set_cons_zero, List.set_cons_succ]
                            try simp only [hd1]
                            try simp only [hd2]
                            refine wpAny_take (i := 28) (oi := ⟨some 169, _, _, _, _, _⟩) (v := ?_) rfl (by kernel_rfl) (by kernel_rfl) (by kernel_rfl) (fun _ _ _ h => h) (Or.inl ⟨by rfl, ?_⟩) ?_
                            rotate_left
                            · intro w; go_simp <;> with_reducible rfl
                            simp only [Act.put, List.setIfInBounds_toArray, List.set_cons_zero, List.set_cons_succ]
                            try simp only [hd1]
                            try simp only [hd2]
                            refine wpAny_take (i := 29) (oi := ⟨some 170, _, _, _, _, _⟩) (v := ?_) rfl (by kernel_rfl) (by kernel_rfl) (by kernel_rfl) (fun _ _ _ h => h) (Or.inl ⟨by rfl, ?_⟩) ?_
                            rotate_left
                            · intro w; go_simp <;> with_reducible rfl
                            simp only [Act.put, List.setIfInBounds_toArray, List.set_cons_zero, List.set_cons_succ]
                            try simp only [hd1]
                            try simp only [hd2]
                            refine wpAny_take (i := 30) (oi := ⟨some 171, _, _, _, _, _⟩) (v := ?_) rfl (by kernel_rfl) (by kernel_rfl) (by kernel_rfl) (fun _ _ _ h => h) (Or.inl ⟨by rfl, ?_⟩) ?_
                            rotate_left
                            · intro w; go_simp <;> with_reducible rfl
                            simp only [Act.put, List.setIfInBounds_toArray, List.set_cons_zero, List.set_cons_succ]
                            try simp only [hd1]
                            try simp only [hd2]
                            refine wpAny_ready (rs := [26, 31]) (by kernel_rfl) (by simp) ?_
                            refine AllReady.cons rfl (fun K hK => ?_) ?_
                            · go_simp
                              first | refine hK _ _ ?_ | refine ⟨trivial, hK _ _ ?_⟩ | refine ⟨fun _ _ => trivial, hK _ _ ?_⟩
                              clear hK K
                              refine wpAny_ready (rs := [31]) (by kernel_rfl) (by simp) ?_
                              refine AllReady.cons rfl (fun K hK => ?_) AllReady.nil
                              go_simp
                              first | refine hK _ _ ?_ | refine ⟨trivial, hK _ _ ?_⟩ | refine ⟨fun _ _ => trivial, hK _ _ ?_⟩
                              clear hK K
                              refine wpAny_take (i := 32) (oi := ⟨some 173, _, _, _, _, _⟩) (v := ?_) rfl (by kernel_rfl) (by kernel_rfl) (by kernel_rfl) (fun _ _ _ h => h) (Or.inl ⟨by rfl, ?_⟩) ?_
                              rotate_left
                              · intro w; go_simp <;> with_reducible rfl
                              simp only [Act.put, List.setIfInBounds_toArray, List.set_cons_zero, List.set_cons_succ]
                              try simp only [hd1]
                              try simp only [hd2]
                              refine wpAny_take (i := 33) (oi := ⟨some 174, _, _, _, _, _⟩) (v := ?_) rfl (by kernel_rfl) (by kernel_rfl) (by kernel_rfl) (fun _ _ _ h => h) (Or.inl ⟨by rfl, ?_⟩) ?_
                              rotate_left
                              · intro w; go_simp <;> with_reducible rfl
                              simp only [Act.put, List.setIfInBounds_toArray, List.set_cons_zero, List.set_cons_succ]
                              try simp only [hd1]
                              try simp only [hd2]
                              refine wpAny_done (by kernel_rfl) ?_ _
                              go_wp2_with (fail)
                              go_meet
                              exact ⟨rfl, BB⟩
                            refine AllReady.cons rfl (fun K hK => ?_) AllReady.nil
                            go_simp
                            first | refine hK _ _ ?_ | refine ⟨trivial, hK _ _ ?_⟩ | refine ⟨fun _ _ => trivial, hK _ _ ?_⟩
                            clear hK K
                            refine wpAny_ready (rs := [26]) (by kernel_rfl) (by simp) ?_
                            refine AllReady.cons rfl (fun K hK => ?_) AllReady.nil
                            go_simp
                            first | refine hK _ _ ?_ | refine ⟨trivial, hK _ _ ?_⟩ | refine ⟨fun _ _ => trivial, hK _ _ ?_⟩
                            clear hK K
                            refine wpAny_take (i := 32) (oi := ⟨some 173, _, _, _, _, _⟩) (v := ?_) rfl (by kernel_rfl) (by kernel_rfl) (by kernel_rfl) (fun _ _ _ h => h) (Or.inl ⟨by rfl, ?_⟩) ?_
                            rotate_left
                            · intro w; go_simp <;> with_reducible rfl
                            simp only [Act.put, List.setIfInBounds_toArray, List.set_cons_zero, List.set_cons_succ]
                            try simp only [hd1]
                            try simp only [hd2]
                            refine wpAny_take (i := 33) (oi := ⟨some 174, _, _, _, _, _⟩) (v := ?_) rfl (by kernel_rfl) (by kernel_rfl) (by kernel_rfl) (fun _ _ _ h => h) (Or.inl ⟨by rfl, ?_⟩) ?_
                            rotate_left
                            · intro w; go_simp <;> with_reducible rfl
                            simp only [Act.put, List.setIfInBounds_toArray, List.set_cons_zero, List.set_cons_succ]
                            try simp only [hd1]
                            try simp only [hd2]
                            refine wpAny_done (by kernel_rfl) ?_ _
                            go_wp2_with (fail)
                            go_meet
                            exact ⟨rfl, BB⟩
                          refine AllReady.cons rfl (fun K hK => ?_) ?_
                          · go_simp
                            refine (kT.out _).mono ?_
                            rintro e wB ⟨rfl, bB⟩
                            have f0 := (bB.cell (p := ⟨pb, po + (k - 1) * 2, none⟩) (by show pb < wr.heap.size; omega)).trans (show wr.drew.cell? ⟨pb, po + (k - 1) * 2, none⟩ = _ from g0)
                            have f2 := (bB.cell (p := ⟨pb, po + k * 2, none⟩) (by show pb < wr.heap.size; omega)).trans (show wr.drew.cell? ⟨pb, po + k * 2, none⟩ = _ from g2)
                            have BB := (Below_dr hB).trans (bB.mono (by show wA.heap.size ≤ wr.heap.size; exact hB.size))
                            first | refine hK _ _ ?_ | refine ⟨trivial, hK _ _ ?_⟩ | refine ⟨fun _ _ => trivial, hK _ _ ?_⟩
                            clear hK K
                            refine wpAny_ready (rs := [5, 18]) (by kernel_rfl) (by simp) ?_
                            refine AllReady.cons rfl (fun K hK => ?_) ?_
                            · go_simp
                              first | refine hK _ _ ?_ | refine ⟨trivial, hK _ _ ?_⟩ | refine ⟨fun _ _ => trivial, hK _ _ ?_⟩
                              clear hK K
                              refine wpAny_take (i := 13) (oi := ⟨some 154, _, _, _, _, _⟩) (v := ?_) rfl (by kernel_rfl) (by kernel_rfl) (by kernel_rfl) (fun _ _ _ h => h) (Or.inl ⟨by rfl, ?_⟩) ?_
                              rotate_left
                              · intro w; go_simp <;> with_reducible rfl
                              simp only [Act.put, List.setIfInBounds_toArray, List.set_cons_zero, List.set_cons_succ]
                              try simp only [hd1]
                              try simp only [hd2]
                              refine wpAny_ready (rs := [18]) (by kernel_rfl) (by simp) ?_
                              refine AllReady.cons rfl (fun K hK => ?_) AllReady.nil
                              go_simp
                              first | refine hK _ _ ?_ | refine ⟨trivial, hK _ _ ?_⟩ | refine ⟨fun _ _ => trivial, hK _ _ ?_⟩
                              clear hK K
                              refine wpAny_take (i := 19) (oi := ⟨some 160, _, _, _, _, _⟩) (v := ?_) rfl (by kernel_rfl) (by kernel_rfl) (by kernel_rfl) (fun _ _ _ h => h) (Or.inl ⟨by rfl, ?_⟩) ?_
                              rotate_left
                              · intro w; go_simp <;> with_reducible rfl
                              simp only [Act.put, List.setIfInBounds_toArray, List.set_cons_zero, List.set_cons_succ]
                              try simp only [hd1]
                              try simp only [hd2]
                              refine wpAny_take (i := 20) (oi := ⟨some 161, _, _, _, _, _⟩) (v := ?_) rfl (by kernel_rfl) (by kernel_rfl) (by kernel_rfl) (fun _ _ _ h => h) (Or.inl ⟨by rfl, ?_⟩) ?_
                              rotate_left
                              · intro w; go_simp <;> with_reducible rfl
                              simp only [Act.put, List.setIfInBounds_toArray, List.set_cons_zero, List.set_cons_succ]
                              try simp only [hd1]
                              try simp only [hd2]
                              refine wpAny_take (i := 21) (oi := ⟨some 162, _, _, _, _, _⟩) (v := ?_) rfl (by kernel_rfl) (by kernel_rfl) (by kernel_rfl) (fun _ _ _ h => h) (Or.inl ⟨by rfl, ?_⟩) ?_
                              rotate_left
                              · intro w; go_simp <;> with_reducible rfl
                              simp only [Act.put, List.setIfInBounds_toArray, List.set_cons_zero, List.set_cons_succ]
                              try simp only [hd1]
                              try simp only [hd2]
                              refine wpAny_take (i := 22) (oi := ⟨some 163, _, _, _, _, _⟩) (v := ?_) rfl (by kernel_rfl) (by kernel_rfl) (by kernel_rfl) (fun _ _ _ h => h) (Or.inl ⟨by rfl, ?_⟩) ?_
                              rotate_left
                              · intro w; go_simp <;> with_reducible rfl
                              simp only [Act.put, List.setIfInBounds_toArray, List.set_cons_zero, List.set_cons_succ]
                              try simp only [hd1]
                              try simp only [hd2]
                              refine wpAny_take (i := 23) (oi := ⟨some 164, _, _, _, _, _⟩) (v := ?_) rfl (by kernel_rfl) (by kernel_rfl) (by kernel_rfl) (fun _ _ _ h => h) (Or.inl ⟨by rfl, ?_⟩) ?_
                              rotate_left
                              · intro w; go_simp <;> with_reducible rfl
                              simp only [Act.put, List.setIfInBounds_toArray, List.set_cons_zero, List.set_cons_succ]
                              try simp only [hd1]
                              try simp only [hd2]
                              refine wpAny_take (i := 24) (oi := ⟨some 165, _, _, _, _, _⟩) (v := ?_) rfl (by kernel_rfl) (by kernel_rfl) (by kernel_rfl) (fun _ _ _ h => h) (Or.inl ⟨by rfl, ?_⟩) ?_
                              rotate_left
                              · intro w; go_simp <;> with_reducible rfl
                              simp only [Act.put, List.setIfInBounds_toArray, List.set_cons_zero, List.set_cons_succ]
                              try simp only [hd1]
                              try simp only [hd2]
                              refine wpAny_take (i := 25) (oi := ⟨some 166, _, _, _, _, _⟩) (v := ?_) rfl (by kernel_rfl) (by kernel_rfl) (by kernel_rfl) (fun _ _ _ h => h) (Or.inl ⟨by rfl, ?_⟩) ?_
                              rotate_left
                              · intro w; go_simp <;> with_reducible rfl
                              simp only [Act.put, List.setIfInBounds_toArray, List.set_cons_zero, List.set_cons_succ]
                              try simp only [hd1]
                              try simp only [hd2]
                              refine wpAny_take (i := 27) (oi := ⟨some 168, _, _, _, _, _⟩) (v := ?_) rfl (by kernel_rfl) (by kernel_rfl) (by kernel_rfl) (fun _ _ _ h => h) (Or.inl ⟨by rfl, ?_⟩) ?_
                              rotate_left
                              · intro w; go_simp <;> with_reducible rfl
                              simp only [Act.put, List.setIfInBounds_toArray, List.set_cons_zero, List.set_cons_succ]
                              try simp only [hd1]
                              try simp only [hd2]
                              refine wpAny_take (i := 28) (oi := ⟨some 169, _, _, _, _, _⟩) (v := ?_) rfl (by kernel_rfl) (by kernel_rfl) (by kernel_rfl) (fun _ _ _ h => h) (Or.inl ⟨by rfl, ?_⟩) ?_
                              rotate_left
                              · intro w; go_simp <;> with_reducible rfl
                              simp only [Act.put, List.setIfInBounds_toArray, List.set_cons_zero, List.set_cons_succ]
                              try simp only [hd1]
                              try simp only [hd2]
                              refine wpAny_take (i := 29) (oi := ⟨some 170, _, _, _, _, _⟩) (v := ?_) rfl (by kernel_rfl) (by kernel_rfl) (by kernel_rfl) (fun _ _ _ h => h) (Or.inl ⟨by rfl, ?_⟩) ?_
                              rotate_left
                              · intro w; go_simp <;> with_reducible rfl
                              simp only [Act.put, List.setIfInBounds_toArray, List.set_cons_zero, List.set_cons_succ]
                              try simp only [hd1]
                              try simp only [hd2]
                              refine wpAny_take (i := 30) (oi := ⟨some 171, _, _, _, _, _⟩) (v := ?_) rfl (by kernel_rfl) (by kernel_rfl) (by kernel_rfl) (fun _ _ _ h => h) (Or.inl ⟨by rfl, ?_⟩) ?_
                              rotate_left
                              · intro w; go_simp <;> with_reducible rfl
                              simp only [Act.put, List.setIfInBounds_toArray, List.set_cons_zero, List.set_cons_succ]
                              try simp only [hd1]
                              try simp only [hd2]
                              refine wpAny_ready (rs := [26, 31]) (by kernel_rfl) (by simp) ?_
                              refine AllReady.cons rfl (fun K hK => ?_) ?_
                              · go_simp
                                first | refine hK _ _ ?_ | refine ⟨trivial, hK _ _ ?_⟩ | refine ⟨fun _ _ => trivial, hK _ _ ?_⟩
                                clear hK K
                                refine wpAny_ready (rs := [31]) (by kernel_rfl) (by simp) ?_
                                refine AllReady.cons rfl (fun K hK => ?_) AllReady.nil
                                go_simp
                                first | refine hK _ _ ?_ | refine ⟨trivial, hK _ _ ?_⟩ | refine ⟨fun _ _ => trivial, hK _ _ ?_⟩
                                clear hK K
                                refine wpAny_take (i := 32) (oi := ⟨some 173, _, _, _, _, _⟩) (v := ?_) rfl (by kernel_rfl) (by kernel_rfl) (by kernel_rfl) (fun _ _ _ h => h) (Or.inl ⟨by rfl, ?_⟩) ?_
                                rotate_left
                                · intro w; go_simp <;> with_reducible rfl
                                simp only [Act.put, List.setIfInBounds_toArray, List.set_cons_zero, List.set_cons_succ]
                                try simp only [hd1]
                                try simp only [hd2]
                                refine wpAny_take (i := 33) (oi := ⟨some 174, _, _, _, _, _⟩) (v := ?_) rfl (by kernel_rfl) (by kernel_rfl) (by kernel_rfl) (fun _ _ _ h => h) (Or.inl ⟨by rfl, ?_⟩) ?_
                                rotate_left
                                · intro w; go_simp <;> with_reducible rfl
                                simp only [Act.put, List.setIfInBounds_toArray, List.set_cons_zero, List.set_cons_succ]
                                try simp only [hd1]
                                try simp only [hd2]
                                refine wpAny_done (by kernel_rfl) ?_ _
                                go_wp2_with (fail)
                                go_meet
                                exact ⟨rfl, BB⟩
                              refine AllReady.cons rfl (fun K hK => ?_) AllReady.nil
                              go_simp
                              first | refine hK _ _ ?_ | refine ⟨trivial, hK _ _ ?_⟩ | refine ⟨fun _ _ => trivial, hK _ _ ?_⟩
                              clear hK K
                              refine wpAny_ready (rs := [26]) (by kernel_rfl) (by simp) ?_
                              refine AllReady.cons rfl (fun K hK => ?_) AllReady.nil
                              go_simp
                              first | refine hK _ _ ?_ | refine ⟨trivial, hK _ _ ?_⟩ | refine ⟨fun _ _ => trivial, hK _ _ ?_⟩
                              clear hK K
                              refine wpAny_take (i := 32) (oi := ⟨some 173, _, _, _, _, _⟩) (v := ?_) rfl (by kernel_rfl) (by kernel_rfl) (by kernel_rfl) (fun _ _ _ h => h) (Or.inl ⟨by rfl, ?_⟩) ?_
                              rotate_left
                              · intro w; go_simp <;> with_reducible rfl
                              simp only [Act.put, List.setIfInBounds_toArray, List.set_cons_zero, List.set_cons_succ]
                              try simp only [hd1]
                              try simp only [hd2]
                              refine wpAny_take (i := 33) (oi := ⟨some 174, _, _, _, _, _⟩) (v := ?_) rfl (by kernel_rfl) (by kernel_rfl) (by kernel_rfl) (fun _ _ _ h => h) (Or.inl ⟨by rfl, ?_⟩) ?_
                              rotate_left
                              · intro w; go_simp <;> with_reducible rfl
                              simp only [Act.put, List.setIfInBounds_toArray, List.set_cons_zero, List.set_cons_succ]
                              try simp only [hd1]
                              try simp only [hd2]
                              refine wpAny_done (by kernel_rfl) ?_ _
                              go_wp2_with (fail)
                              go_meet
                              exact ⟨rfl, BB⟩
                            refine AllReady.cons rfl (fun K hK => ?_) AllReady.nil
                            go_simp
                            first | refine hK _ _ ?_ | refine ⟨trivial, hK _ _ ?_⟩ | refine ⟨fun _ _ => trivial, hK _ _ ?_⟩
                            clear hK K
                            refine wpAny_ready (rs := [5]) (by kernel_rfl) (by simp) ?_
                            refine AllReady.cons rfl (fun K hK => ?_) AllReady.nil
                            go_simp
                            first | refine hK _ _ ?_ | refine ⟨trivial, hK _ _ ?_⟩ | refine ⟨fun _ _ => trivial, hK _ _ ?_⟩
                            clear hK K
                            refine wpAny_take (i := 13) (oi := ⟨some 154, _, _, _, _, _⟩) (v := ?_) rfl (by kernel_rfl) (by kernel_rfl) (by kernel_rfl) (fun _ _ _ h => h) (Or.inl ⟨by rfl, ?_⟩) ?_
                            rotate_left
                            · intro w; go_simp <;> with_reducible rfl
                            simp only [Act.put, List.setIfInBounds_toArray, List.set_cons_zero, List.set_cons_succ]
                            try simp only [hd1]
                            try simp only [hd2]
                            refine wpAny_take (i := 19) (oi := ⟨some 160, _, _, _, _, _⟩) (v := ?_) rfl (by kernel_rfl) (by kernel_rfl) (by kernel_rfl) (fun _ _ _ h => h) (Or.inl ⟨by rfl, ?_⟩) ?_
                            rotate_left
                            · intro w; go_simp <;> with_reducible rfl
                            simp only [Act.put, List.setIfInBounds_toArray, List.set_cons_zero, List.set_cons_succ]
                            try simp only [hd1]
                            try simp only [hd2]
                            refine wpAny_take (i := 20) (oi := ⟨some 161, _, _, _, _, _⟩) (v := ?_) rfl (by kernel_rfl) (by kernel_rfl) (by kernel_rfl) (fun _ _ _ h => h) (Or.inl ⟨by rfl, ?_⟩) ?_
                            rotate_left
                            · intro w; go_simp <;> with_reducible rfl
                            simp only [Act.put, List.setIfInBounds_toArray, List.set_cons_zero, List.set_cons_succ]
                            try simp only [hd1]
                            try simp only [hd2]
                            refine wpAny_take (i := 21) (oi := ⟨some 162, _, _, _, _, _⟩) (v := ?_) rfl (by kernel_rfl) (by kernel_rfl) (by kernel_rfl) (fun _ _ _ h => h) (Or.inl ⟨by rfl, ?_⟩) ?_
                            rotate_left
                            · intro w; go_simp <;> with_reducible rfl
                            simp only [Act.put, List.setIfInBounds_toArray, List.set_cons_zero, List.set_cons_succ]
                            try simp only [hd1]
                            try simp only [hd2]
                            refine wpAny_take (i := 22) (oi := ⟨some 163, _, _, _, _, _⟩) (v := ?_) rfl (by kernel_rfl) (by kernel_rfl) (by kernel_rfl) (fun _ _ _ h => h) (Or.inl ⟨by rfl, ?_⟩) ?_
                            rotate_left
                            · intro w; go_simp <;> with_reducible rfl
                            simp only [Act.put, List.setIfInBounds_toArray, List.set_cons_zero, List.set_cons_succ]
                            try simp only [hd1]
                            try simp only [hd2]
                            refine wpAny_take (i := 23) (oi := ⟨some 164, _, _, _, _, _⟩) (v := ?_) rfl (by kernel_rfl) (by kernel_rfl) (by kernel_rfl) (fun _ _ _ h => h) (Or.inl ⟨by rfl, ?_⟩) ?_
                            rotate_left
                            · intro w; go_simp <;> with_reducible rfl
                            simp only [Act.put, List.setIfInBounds_toArray, List.set_cons_zero, List.set_cons_succ]
                            try simp only [hd1]
                            try simp only [hd2]
                            refine wpAny_take (i := 24) (oi := ⟨some 165, _, _, _, _, _⟩) (v := ?_) rfl (by kernel_rfl) (by kernel_rfl) (by kernel_rfl) (fun _ _ _ h => h) (Or.inl ⟨by rfl, ?_⟩) ?_
                            rotate_left
                            · intro w; go_simp <;> with_reducible rfl
                            simp only [Act.put, List.setIfInBounds_toArray, List.set_cons_zero, List.set_cons_succ]
                            try simp only [hd1]
                            try simp only [hd2]
                            refine wpAny_take (i := 25) (oi := ⟨some 166, _, _, _, _, _⟩) (v := ?_) rfl (by kernel_rfl) (by kernel_rfl) (by kernel_rfl) (fun _ _ _ h => h) (Or.inl ⟨by rfl, ?_⟩) ?_
                            rotate_left
                            · intro w; go_simp <;> with_reducible rfl
                            simp only [Act.put, List.setIfInBounds_toArray, List.set_cons_zero, List.set_cons_succ]
                            try simp only [hd1]
                            try simp only [hd2]
                            refine wpAny_take (i := 27) (oi := ⟨some 168, _, _, _, _, _⟩) (v := ?_) rfl (by kernel_rfl) (by kernel_rfl) (by kernel_rfl) (fun _ _ _ h => h) (Or.inl ⟨by rfl, ?_⟩) ?_
                            rotate_left
                            · intro w; go_simp <;> with_reducible rfl
                            simp only [Act.put, List.setIfInBounds_toArray, List.set_cons_zero, List.set_cons_succ]
                            try simp only [hd1]
                            try simp only [hd2]
                            refine wpAny_take (i := 28) (oi := ⟨some 169, _, _, _, _, _⟩) (v := ?_) rfl (by kernel_rfl) (by kernel_rfl) (by kernel_rfl) (fun _ _ _ h => h) (Or.inl ⟨by rfl, ?_⟩) ?_
                            rotate_left
                            · intro w; go_simp <;> with_reducible rfl
                            simp only [Act.put, List.setIfInBounds_toArray, List.set_cons_zero, List.set_cons_succ]
                            try simp only [hd1]
                            try simp only [hd2]
                            refine wpAny_take (i := 29) (oi := ⟨some 170, _, _, _, _, _⟩) (v := ?_) rfl (by kernel_rfl) (by kernel_rfl) (by kernel_rfl) (fun _ _ _ h => h) (Or.inl ⟨by rfl, ?_⟩) ?_
                            rotate_left
                            · intro w; go_simp <;> with_reducible rfl
                            simp only [Act.put, List.setIfInBounds_toArray, List.set_cons_zero, List.set_cons_succ]
                            try simp only [hd1]
                            try simp only [hd2]
                            refine wpAny_take (i := 30) (oi := ⟨some 171, _, _, _, _, _⟩) (v := ?_) rfl (by kernel_rfl) (by kernel_rfl) (by kernel_rfl) (fun _ _ _ h => h) (Or.inl ⟨by rfl, ?_⟩) ?_
                            rotate_left
                            · intro w; go_simp <;> with_reducible rfl
                            simp only [Act.put, List.setIfInBounds_toArray, List.set_cons_zero, List.set_cons_succ]
                            try simp only [hd1]
                            try simp only [hd2]
                            refine wpAny_ready (rs := [26, 31]) (by kernel_rfl) (by simp) ?_
                            refine AllReady.cons rfl (fun K hK => ?_) ?_
                            · go_simp
                              first | refine hK _ _ ?_ | refine ⟨trivial, hK _ _ ?_⟩ | refine ⟨fun _ _ => trivial, hK _ _ ?_⟩
                              clear hK K
                              refine wpAny_ready (rs := [31]) (by kernel_rfl) (by simp) ?_
                              refine AllReady.cons rfl (fun K hK => ?_) AllReady.nil
                              go_simp
                              first | refine hK _ _ ?_ | refine ⟨trivial, hK _ _ ?_⟩ | refine ⟨fun _ _ => trivial, hK _ _ ?_⟩
                              clear hK K
                              refine wpAny_take (i := 32) (oi := ⟨some 173, _, _, _, _, _⟩) (v := ?_) rfl (by kernel_rfl) (by kernel_rfl) (by kernel_rfl) (fun _ _ _ h => h) (Or.inl ⟨by rfl, ?_⟩) ?_
                              rotate_left
                              · intro w; go_simp <;> with_reducible rfl
                              simp only [Act.put, List.setIfInBounds_toArray, List.set_cons_zero, List.set_cons_succ]
                              try simp only [hd1]
                              try simp only [hd2]
                              refine wpAny_take (i := 33) (oi := ⟨some 174, _, _, _, _, _⟩) (v := ?_) rfl (by kernel_rfl) (by kernel_rfl) (by kernel_rfl) (fun _ _ _ h => h) (Or.inl ⟨by rfl, ?_⟩) ?_
                              rotate_left
                              · intro w; go_simp <;> with_reducible rfl
                              simp only [Act.put, List.setIfInBounds_toArray, List.set_cons_zero, List.set_cons_succ]
                              try simp only [hd1]
                              try simp only [hd2]
                              refine wpAny_done (by kernel_rfl) ?_ _
                              go_wp2_with (fail)
                              go_meet
                              exact ⟨rfl, BB⟩
                            refine AllReady.cons rfl (fun K hK => ?_) AllReady.nil
                            go_simp
                            first | refine hK _ _ ?_ | refine ⟨trivial, hK _ _ ?_⟩ | refine ⟨fun _ _ => trivial, hK _ _ ?_⟩
                            clear hK K
                            refine wpAny_ready (rs := [26]) (by kernel_rfl) (by simp) ?_
                            refine AllReady.cons rfl (fun K hK => ?_) AllReady.nil
                            go_simp
                            first | refine hK _ _ ?_ | refine ⟨trivial, hK _ _ ?_⟩ | refine ⟨fun _ _ => trivial, hK _ _ ?_⟩
                            clear hK K
                            refine wpAny_take (i := 32) (oi := ⟨some 173, _, _, _, _, _⟩) (v := ?_) rfl (by kernel_rfl) (by kernel_rfl) (by kernel_rfl) (fun _ _ _ h => h) (Or.inl ⟨by rfl, ?_⟩) ?_
                            rotate_left
                            · intro w; go_simp <;> with_reducible rfl
                            simp only [Act.put, List.setIfInBounds_toArray, List.set_cons_zero, List.set_cons_succ]
                            try simp only [hd1]
                            try simp only [hd2]
                            refine wpAny_take (i := 33) (oi := ⟨some 174, _, _, _, _, _⟩) (v := ?_) rfl (by kernel_rfl) (by kernel_rfl) (by kernel_rfl) (fun _ _ _ h => h) (Or.inl ⟨by rfl, ?_⟩) ?_
                            rotate_left
                            · intro w; go_simp <;> with_reducible rfl
                            simp only [Act.put, List.setIfInBounds_toArray, List.set_cons_zero, List.set_cons_succ]
                            try simp only [hd1]
                            try simp only [hd2]
                            refine wpAny_done (by kernel_rfl) ?_ _
                            go_wp2_with (fail)
                            go_meet
                            exact ⟨rfl, BB⟩
                          refine AllReady.cons rfl (fun K hK => ?_) AllReady.nil
                          go_simp
                          first | refine hK _ _ ?_ | refine ⟨trivial, hK _ _ ?_⟩ | refine ⟨fun _ _ => trivial, hK _ _ ?_⟩
                          clear hK K
                          refine wpAny_ready (rs := [5, 12]) (by kernel_rfl) (by simp) ?_
                          refine AllReady.cons rfl (fun K hK => ?_) ?_
                          · go_simp
                            first | refine hK _ _ ?_ | refine ⟨trivial, hK _ _ ?_⟩ | refine ⟨fun _ _ => trivial, hK _ _ ?_⟩
                            clear hK K
                            refine wpAny_ready (rs := [12]) (by kernel_rfl) (by simp) ?_
                            refine AllReady.cons rfl (fun K hK => ?_) AllReady.nil
                            go_simp
                            refine (kT.out _).mono ?_
                            rintro e wB ⟨rfl, bB⟩
                            have f0 := (bB.cell (p := ⟨pb, po + (k - 1) * 2, none⟩) (by show pb < wr.heap.size; omega)).trans (show wr.drew.cell? ⟨pb, po + (k - 1) * 2, none⟩ = _ from g0)
                            have f2 := (bB.cell (p := ⟨pb, po + k * 2, none⟩) (by show pb < wr.heap.size; omega)).trans (show wr.drew.cell? ⟨pb, po + k * 2, none⟩ = _ from g2)
                            have BB := (Below_dr hB).trans (bB.mono (by show wA.heap.size ≤ wr.heap.size; exact hB.size))
                            first | refine hK _ _ ?_ | refine ⟨trivial, hK _ _ ?_⟩ | refine ⟨fun _ _ => trivial, hK _ _ ?_⟩
                            clear hK K
                            refine wpAny_take (i := 13) (oi := ⟨some 154, _, _, _, _, _⟩) (v := ?_) rfl (by kernel_rfl) (by kernel_rfl) (by kernel_rfl) (fun _ _ _ h => h) (Or.inl ⟨by rfl, ?_⟩) ?_
                            rotate_left
                            · intro w; go_simp <;> with_reducible rfl
                            simp only [Act.put, List.setIfInBounds_toArray, List.set_cons_zero, List.set_cons_succ]
                            try simp only [hd1]
                            try simp only [hd2]
                            refine wpAny_take (i := 19) (oi := ⟨some 160, _, _, _, _, _⟩) (v := ?_) rfl (by kernel_rfl) (by kernel_rfl) (by kernel_rfl) (fun _ _ _ h => h) (Or.inl ⟨by rfl, ?_⟩) ?_
                            rotate_left
                            · intro w; go_simp <;> with_reducible rfl
                            simp only [Act.put, List.setIfInBounds_toArray, List.set_cons_zero, List.set_cons_succ]
                            try simp only [hd1]
                            try simp only [hd2]
                            refine wpAny_take (i := 20) (oi := ⟨some 161, _, _, _, _, _⟩) (v := ?_) rfl (by kernel_rfl) (by kernel_rfl) (by kernel_rfl) (fun _ _ _ h => h) (Or.inl ⟨by rfl, ?_⟩) ?_
                            rotate_left
                            · intro w; go_simp <;> with_reducible rfl
                            simp only [Act.put, List.setIfInBounds_toArray, List.set_cons_zero, List.set_cons_succ]
                            try simp only [hd1]
                            try simp only [hd2]
                            refine wpAny_take (i := 21) (oi := ⟨some 162, _, _, _, _, _⟩) (v := ?_) rfl (by kernel_rfl) (by kernel_rfl) (by kernel_rfl) (fun _ _ _ h => h) (Or.inl ⟨by rfl, ?_⟩) ?_
                            rotate_left
                            · intro w; go_simp <;> with_reducible rfl
                            simp only [Act.put, List.setIfInBounds_toArray, List.set_cons_zero, List.set_cons_succ]
                            try simp only [hd1]
                            try simp only [hd2]
                            refine wpAny_take (i := 22) (oi := ⟨some 163, _, _, _, _, _⟩) (v := ?_) rfl (by kernel_rfl) (by kernel_rfl) (by kernel_rfl) (fun _ _ _ h => h) (Or.inl ⟨by rfl, ?_⟩) ?_
                            rotate_left
                            · intro w; go_simp <;> with_reducible rfl
                            simp only [Act.put, List.setIfInBounds_toArray, List.set_cons_zero, List.set_cons_succ]
                            try simp only [hd1]
                            try simp only [hd2]
                            refine wpAny_take (i := 23) (oi := ⟨some 164, _, _, _, _, _⟩) (v := ?_) rfl (by kernel_rfl) (by kernel_rfl) (by kernel_rfl) (fun _ _ _ h => h) (Or.inl ⟨by rfl, ?_⟩) ?_
                            rotate_left
                            · intro w; go_simp <;> with_reducible rfl
                            simp only [Act.put, List.setIfInBounds_toArray, List.set_cons_zero, List.set_cons_succ]
                            try simp only [hd1]
                            try simp only [hd2]
                            refine wpAny_take (i := 24) (oi := ⟨some 165, _, _, _, _, _⟩) (v := ?_) rfl (by kernel_rfl) (by kernel_rfl) (by kernel_rfl) (fun _ _ _ h => h) (Or.inl ⟨by rfl, ?_⟩) ?_
                            rotate_left
                            · intro w; go_simp <;> with_reducible rfl
                            simp only [Act.put, List.setIfInBounds_toArray, List.set_cons_zero, List.set_cons_succ]
                            try simp only [hd1]
                            try simp only [hd2]
                            refine wpAny_take (i := 25) (oi := ⟨some 166, _, _, _, _, _⟩) (v := ?_) rfl (by kernel_rfl) (by kernel_rfl) (by kernel_rfl) (fun _ _ _ h => h) (Or.inl ⟨by rfl, ?_⟩) ?_
                            rotate_left
                            · intro w; go_simp <;> with_reducible rfl
                            simp only [Act.put, List.setIfInBounds_toArray, List.set_cons_zero, List.set_cons_succ]
                            try simp only [hd1]
                            try simp only [hd2]
                            refine wpAny_take (i := 27) (oi := ⟨some 168, _, _, _, _, _⟩) (v := ?_) rfl (by kernel_rfl) (by kernel_rfl) (by kernel_rfl) (fun _ _ _ h => h) (Or.inl ⟨by rfl, ?_⟩) ?_
                            rotate_left
                            · intro w; go_simp <;> with_reducible rfl
                            simp only [Act.put, List.setIfInBounds_toArray, List.set_cons_zero, List.set_cons_succ]
                            try simp only [hd1]
                            try simp only [hd2]
                            refine wpAny_take (i := 28) (oi := ⟨some 169, _, _, _, _, _⟩) (v := ?_) rfl (by kernel_rfl) (by kernel_rfl) (by kernel_rfl) (fun _ _ _ h => h) (Or.inl ⟨by rfl, ?_⟩) ?_
                            rotate_left
                            · intro w; go_simp <;> with_reducible rfl
                            simp only [Act.put, List.setIfInBounds_toArray, List.set_cons_zero, List.set_cons_succ]
                            try simp only [hd1]
                            try simp only [hd2]
                            refine wpAny_take (i := 29) (oi := ⟨some 170, _, _, _, _, _⟩) (v := ?_) rfl (by kernel_rfl) (by kernel_rfl) (by kernel_rfl) (fun _ _ _ h => h) (Or.inl ⟨by rfl, ?_⟩) ?_
                            rotate_left
                            · intro w; go_simp <;> with_reducible rfl
                            simp only [Act.put, List.setIfInBounds_toArray, List.set_cons_zero, List.set_cons_succ]
                            try simp only [hd1]
                            try simp only [hd2]
                            refine wpAny_take (i := 30) (oi := ⟨some 171, _, _, _, _, _⟩) (v := ?_) rfl (by kernel_rfl) (by kernel_rfl) (by kernel_rfl) (fun _ _ _ h => h) (Or.inl ⟨by rfl, ?_⟩) ?_
                            rotate_left
                            · intro w; go_simp <;> with_reducible rfl
                            simp only [Act.put, List.setIfInBounds_toArray, List.set_cons_zero, List.set_cons_succ]
                            try simp only [hd1]
                            try simp only [hd2]
                            refine wpAny_ready (rs := [26, 31]) (by kernel_rfl) (by simp) ?_
                            refine AllReady.cons rfl (fun K hK => ?_) ?_
                            · go_simp
                              first | refine hK _ _ ?_ | refine ⟨trivial, hK _ _ ?_⟩ | refine ⟨fun _ _ => trivial, hK _ _ ?_⟩
                              clear hK K
                              refine wpAny_ready (rs := [31]) (by kernel_rfl) (by simp) ?_
                              refine AllReady.cons rfl (fun K hK => ?_) AllReady.nil
                              go_simp
                              first | refine hK _ _ ?_ | refine ⟨trivial, hK _ _ ?_⟩ | refine ⟨fun _ _ => trivial, hK _ _ ?_⟩
                              clear hK K
                              refine wpAny_take (i := 32) (oi := ⟨some 173, _, _, _, _, _⟩) (v := ?_) rfl (by kernel_rfl) (by kernel_rfl) (by kernel_rfl) (fun _ _ _ h => h) (Or.inl ⟨by rfl, ?_⟩) ?_
                              rotate_left
                              · intro w; go_simp <;> with_reducible rfl
                              simp only [Act.put, List.setIfInBounds_toArray, List.set_cons_zero, List.set_cons_succ]
                              try simp only [hd1]
                              try simp only [hd2]
                              refine wpAny_take (i := 33) (oi := ⟨some 174, _, _, _, _, _⟩) (v := ?_) rfl (by kernel_rfl) (by kernel_rfl) (by kernel_rfl) (fun _ _ _ h => h) (Or.inl ⟨by rfl, ?_⟩) ?_
                              rotate_left
                              · intro w; go_simp <;> with_reducible rfl
                              simp only [Act.put, List.setIfInBounds_toArray, List.set_cons_zero, List.set_cons_succ]
                              try simp only [hd1]
                              try simp only [hd2]
                              refine wpAny_done (by kernel_rfl) ?_ _
                              go_wp2_with (fail)
                              go_meet
                              exact ⟨rfl, BB⟩
                            refine AllReady.cons rfl (fun K hK => ?_) AllReady.nil
                            go_simp
                            first | refine hK _ _ ?_ | refine ⟨trivial, hK _ _ ?_⟩ | refine ⟨fun _ _ => trivial, hK _ _ ?_⟩
                            clear hK K
                            refine wpAny_ready (rs := [26]) (by kernel_rfl) (by simp) ?_
                            refine AllReady.cons rfl (fun K hK => ?_) AllReady.nil
                            go_simp
                            first | refine hK _ _ ?_ | refine ⟨trivial, hK _ _ ?_⟩ | refine ⟨fun _ _ => trivial, hK _ _ ?_⟩
                            clear hK K
                            refine wpAny_take (i := 32) (oi := ⟨some 173, _, _, _, _, _⟩) (v := ?_) rfl (by kernel_rfl) (by kernel_rfl) (by kernel_rfl) (fun _ _ _ h => h) (Or.inl ⟨by rfl, ?_⟩) ?_
                            rotate_left
                            · intro w; go_simp <;> with_reducible rfl
                            simp only [Act.put, List.setIfInBounds_toArray, List.set_cons_zero, List.set_cons_succ]
                            try simp only [hd1]
                            try simp only [hd2]
                            refine wpAny_take (i := 33) (oi := ⟨some 174, _, _, _, _, _⟩) (v := ?_) rfl (by kernel_rfl) (by kernel_rfl) (by kernel_rfl) (fun _ _ _ h => h) (Or.inl ⟨by rfl, ?_⟩) ?_
                            rotate_left
                            · intro w; go_simp <;> with_reducible rfl
                            simp only [Act.put, List.setIfInBounds_toArray, List.set_cons_zero, List.set_cons_succ]
                            try simp only [hd1]
                            try simp only [hd2]
                            refine wpAny_done (by kernel_rfl) ?_ _
                            go_wp2_with (fail)
                            go_meet
                            exact ⟨rfl, BB⟩
                          refine AllReady.cons rfl (fun K hK => ?_) AllReady.nil
                          go_simp
                          refine (kT.out _).mono ?_
                          rintro e wB ⟨rfl, bB⟩
                          have f0 := (bB.cell (p := ⟨pb, po + (k - 1) * 2, none⟩) (by show pb < wr.heap.size; omega)).trans (show wr.drew.cell? ⟨pb, po + (k - 1) * 2, none⟩ = _ from g0)
                          have f2 := (bB.cell (p := ⟨pb, po + k * 2, none⟩) (by show pb < wr.heap.size; omega)).trans (show wr.drew.cell? ⟨pb, po + k * 2, none⟩ = _ from g2)
                          have BB := (Below_dr hB).trans (bB.mono (by show wA.heap.size ≤ wr.heap.size; exact hB.size))
                          first | refine hK _ _ ?_ | refine ⟨trivial, hK _ _ ?_⟩ | refine ⟨fun _ _ => trivial, hK _ _ ?_⟩
                          clear hK K
                          refine wpAny_ready (rs := [5]) (by kernel_rfl) (by simp) ?_
                          refine AllReady.cons rfl (fun K hK => ?_) AllReady.nil
                          go_simp
                          first | refine hK _ _ ?_ | refine ⟨trivial, hK _ _ ?_⟩ | refine ⟨fun _ _ => trivial, hK _ _ ?_⟩
                          clear hK K
                          refine wpAny_take (i := 13) (oi := ⟨some 154, _, _, _, _, _⟩) (v := ?_) rfl (by kernel_rfl) (by kernel_rfl) (by kernel_rfl) (fun _ _ _ h => h) (Or.inl ⟨by rfl, ?_⟩) ?_
                          rotate_left
                          · intro w; go_simp <;> with_reducible rfl
                          simp only [Act.put, List.setIfInBounds_toArray, List.set_cons_zero, List.set_cons_succ]
                          try simp only [hd1]
                          try simp only [hd2]
                          refine wpAny_take (i := 19) (oi := ⟨some 160, _, _, _, _, _⟩) (v := ?_) rfl (by kernel_rfl) (by kernel_rfl) (by kernel_rfl) (fun _ _ _ h => h) (Or.inl ⟨by rfl, ?_⟩) ?_
                          rotate_left
                          · intro w; go_simp <;> with_reducible rfl
                          simp only [Act.put, List.setIfInBounds_toArray, List.set_cons_zero, List.set_cons_succ]
                          try simp only [hd1]
                          try simp only [hd2]
                          refine wpAny_take (i := 20) (oi := ⟨some 161, _, _, _, _, _⟩) (v := ?_) rfl (by kernel_rfl) (by kernel_rfl) (by kernel_rfl) (fun _ _ _ h => h) (Or.inl ⟨by rfl, ?_⟩) ?_
                          rotate_left
                          · intro w; go_simp <;> with_reducible rfl
                          simp only [Act.put, List.setIfInBounds_toArray, List.set_cons_zero, List.set_cons_succ]
                          try simp only [hd1]
                          try simp only [hd2]
                          refine wpAny_take (i := 21) (oi := ⟨some 162, _, _, _, _, _⟩) (v := ?_) rfl (by kernel_rfl) (by kernel_rfl) (by kernel_rfl) (fun _ _ _ h => h) (Or.inl ⟨by rfl, ?_⟩) ?_
                          rotate_left
                          · intro w; go_simp <;> with_reducible rfl
                          simp only [Act.put, List.setIfInBounds_toArray, List.set_cons_zero, List.set_cons_succ]
                          try simp only [hd1]
                          try simp only [hd2]
                          refine wpAny_take (i := 22) (oi := ⟨some 163, _, _, _, _, _⟩) (v := ?_) rfl (by kernel_rfl) (by kernel_rfl) (by kernel_rfl) (fun _ _ _ h => h) (Or.inl ⟨by rfl, ?_⟩) ?_
                          rotate_left
                          · intro w; go_simp <;> with_reducible rfl
                          simp only [Act.put, List.setIfInBounds_toArray, List.set_cons_zero, List.set_cons_succ]
                          try simp only [hd1]
                          try simp only [hd2]
                          refine wpAny_take (i := 23) (oi := ⟨some 164, _, _, _, _, _⟩) (v := ?_) rfl (by kernel_rfl) (by kernel_rfl) (by kernel_rfl) (fun _ _ _ h => h) (Or.inl ⟨by rfl, ?_⟩) ?_
                          rotate_left
                          · intro w; go_simp <;> with_reducible rfl
                          simp only [Act.put, List.setIfInBounds_toArray, List.set_cons_zero, List.set_cons_succ]
                          try simp only [hd1]
                          try simp only [hd2]
                          refine wpAny_take (i := 24) (oi := ⟨some 165, _, _, _, _, _⟩) (v := ?_) rfl (by kernel_rfl) (by kernel_rfl) (by kernel_rfl) (fun _ _ _ h => h) (Or.inl ⟨by rfl, ?_⟩) ?_
                          rotate_left
                          · intro w; go_simp <;> with_reducible rfl
                          simp only [Act.put, List.setIfInBounds_toArray, List.set_cons_zero, List.set_cons_succ]
                          try simp only [hd1]
                          try simp only [hd2]
                          refine wpAny_take (i := 25) (oi := ⟨some 166, _, _, _, _, _⟩) (v := ?_) rfl (by kernel_rfl) (by kernel_rfl) (by kernel_rfl) (fun _ _ _ h => h) (Or.inl ⟨by rfl, ?_⟩) ?_
                          rotate_left
                          · intro w; go_simp <;> with_reducible rfl
                          simp only [Act.put, List.setIfInBounds_toArray, List.set_cons_zero, List.set_cons_succ]
                          try simp only [hd1]
                          try simp only [hd2]
                          refine wpAny_take (i := 27) (oi := ⟨some 168, _, _, _, _, _⟩) (v := ?_) rfl (by kernel_rfl) (by kernel_rfl) (by kernel_rfl) (fun _ _ _ h => h) (Or.inl ⟨by rfl, ?_⟩) ?_
                          rotate_left
                          · intro w; go_simp <;> with_reducible rfl
                          simp only [Act.put, List.setIfInBounds_toArray, List.set_cons_zero, List.set_cons_succ]
                          try simp only [hd1]
                          try simp only [hd2]
                          refine wpAny_take (i := 28) (oi := ⟨some 169, _, _, _, _, _⟩) (v := ?_) rfl (by kernel_rfl) (by kernel_rfl) (by kernel_rfl) (fun _ _ _ h => h) (Or.inl ⟨by rfl, ?_⟩) ?_
                          rotate_left
                          · intro w; go_simp <;> with_reducible rfl
                          simp only [Act.put, List.setIfInBounds_toArray, List.set_cons_zero, List.set_cons_succ]
                          try simp only [hd1]
                          try simp only [hd2]
                          refine wpAny_take (i := 29) (oi := ⟨some 170, _, _, _, _, _⟩) (v := ?_) rfl (by kernel_rfl) (by kernel_rfl) (by kernel_rfl) (fun _ _ _ h => h) (Or.inl ⟨by rfl, ?_⟩) ?_
                          rotate_left
                          · intro w; go_simp <;> with_reducible rfl
                          simp only [Act.put, List.setIfInBounds_toArray, List.set_cons_zero, List.set_cons_succ]
                          try simp only [hd1]
                          try simp only [hd2]
                          refine wpAny_take (i := 30) (oi := ⟨some 171, _, _, _, _, _⟩) (v := ?_) rfl (by kernel_rfl) (by kernel_rfl) (by kernel_rfl) (fun _ _ _ h => h) (Or.inl ⟨by rfl, ?_⟩) ?_
                          rotate_left
                          · intro w; go_simp <;> with_reducible rfl
                          simp only [Act.put, List.setIfInBounds_toArray, List.set_cons_zero, List.set_cons_succ]
                          try simp only [hd1]
                          try simp only [hd2]
                          refine wpAny_ready (rs := [26, 31]) (by kernel_rfl) (by simp) ?_
                          refine AllReady.cons rfl (fun K hK => ?_) ?_
                          · go_simp
                            first | refine hK _ _ ?_ | refine ⟨trivial, hK _ _ ?_⟩ | refine ⟨fun _ _ => trivial, hK _ _ ?_⟩
                            clear hK K
                            refine wpAny_ready (rs := [31]) (by kernel_rfl) (by simp) ?_
                            refine AllReady.cons rfl (fun K hK => ?_) AllReady.nil
                            go_simp
                            first | refine hK _ _ ?_ | refine ⟨trivial, hK _ _ ?_⟩ | refine ⟨fun _ _ => trivial, hK _ _ ?_⟩
                            clear hK K
                            refine wpAny_take (i := 32) (oi := ⟨some 173, _, _, _, _, _⟩) (v := ?_) rfl (by kernel_rfl) (by kernel_rfl) (by kernel_rfl) (fun _ _ _ h => h) (Or.inl ⟨by rfl, ?_⟩) ?_
                            rotate_left
                            · intro w; go_simp <;> with_reducible rfl
                            simp only [Act.put, List.setIfInBounds_toArray, List.set_cons_zero, List.set_cons_succ]
                            try simp only [hd1]
                            try simp only [hd2]
                            refine wpAny_take (i := 33) (oi := ⟨some 174, _, _, _, _, _⟩) (v := ?_) rfl (by kernel_rfl) (by kernel_rfl) (by kernel_rfl) (fun _ _ _ h => h) (Or.inl ⟨by rfl, ?_⟩) ?_
                            rotate_left
                            · intro w; go_simp <;> with_reducible rfl
                            simp only [Act.put, List.setIfInBounds_toArray, List.set_cons_zero, List.set_cons_succ]
                            try simp only [hd1]
                            try simp only [hd2]
                            refine wpAny_done (by kernel_rfl) ?_ _
                            go_wp2_with (fail)
                            go_meet
                            exact ⟨rfl, BB⟩
                          refine AllReady.cons rfl (fun K hK => ?_) AllReady.nil
                          go_simp
                          first | refine hK _ _ ?_ | refine ⟨trivial, hK _ _ ?_⟩ | refine ⟨fun _ _ => trivial, hK _ _ ?_⟩
                          clear hK K
                          refine wpAny_ready (rs := [26]) (by kernel_rfl) (by simp) ?_
                          refine AllReady.cons rfl (fun K hK => ?_) AllReady.nil
                          go_simp
                          first | refine hK _ _ ?_ | refine ⟨trivial, hK _ _ ?_⟩ | refine ⟨fun _ _ => trivial, hK _ _ ?_⟩
                          clear hK K
                          refine wpAny_take (i := 32) (oi := ⟨some 173, _, _, _, _, _⟩) (v := ?_) rfl (by kernel_rfl) (by kernel_rfl) (by kernel_rfl) (fun _ _ _ h => h) (Or.inl ⟨by rfl, ?_⟩) ?_
                          rotate_left
                          · intro w; go_simp <;> with_reducible rfl
                          simp only [Act.put, List.setIfInBounds_toArray, List.set_cons_zero, List.set_cons_succ]
                          try simp only [hd1]
                          try simp only [hd2]
                          refine wpAny_take (i := 33) (oi := ⟨some 174, _, _, _, _, _⟩) (v := ?_) rfl (by kernel_rfl) (by kernel_rfl) (by kernel_rfl) (fun _ _ _ h => h) (Or.inl ⟨by rfl, ?_⟩) ?_
                          rotate_left
                          · intro w; go_simp <;> with_reducible rfl
                          simp only [Act.put, List.setIfInBounds_toArray, List.set_cons_zero, List.set_cons_succ]
                          try simp only [hd1]
                          try simp only [hd2]
                          refine wpAny_done (by kernel_rfl) ?_ _
                          go_wp2_with (fail)
                          go_meet
                          exact ⟨rfl, BB⟩
                        refine AllReady.cons rfl (fun K hK => ?_) AllReady.nil
                        go_simp
                        first | refine hK _ _ ?_ | refine ⟨trivial, hK _ _ ?_⟩ | refine ⟨fun _ _ => trivial, hK _ _ ?_⟩
                        clear hK K
                        refine wpAny_ready (rs := [5, 11]) (by kernel_rfl) (by simp) ?_
                        refine AllReady.cons rfl (fun K hK => ?_) ?_
                        · go_simp
                          first | refine hK _ _ ?_ | refine ⟨trivial, hK _ _ ?_⟩ | refine ⟨fun _ _ => trivial, hK _ _ ?_⟩
                          clear hK K
                          refine wpAny_ready (rs := [11]) (by kernel_rfl) (by simp) ?_
                          refine AllReady.cons rfl (fun K hK => ?_) AllReady.nil
                          go_simp
                          first | refine hK _ _ ?_ | refine ⟨trivial, hK _ _ ?_⟩ | refine ⟨fun _ _ => trivial, hK _ _ ?_⟩
                          clear hK K
                          refine wpAny_ready (rs := [12]) (by kernel_rfl) (by simp) ?_
                          refine AllReady.cons rfl (fun K hK => ?_) AllReady.nil
                          go_simp
                          refine (kT.out _).mono ?_
                          rintro e wB ⟨rfl, bB⟩
                          have f0 := (bB.cell (p := ⟨pb, po + (k - 1) * 2, none⟩) (by show pb < wr.heap.size; omega)).trans (show wr.drew.cell? ⟨pb, po + (k - 1) * 2, none⟩ = _ from g0)
                          have f2 := (bB.cell (p := ⟨pb, po + k * 2, none⟩) (by show pb < wr.heap.size; omega)).trans (show wr.drew.cell? ⟨pb, po + k * 2, none⟩ = _ from g2)
                          have BB := (Below_dr hB).trans (bB.mono (by show wA.heap.size ≤ wr.heap.size; exact hB.size))
                          first | refine hK _ _ ?_ | refine ⟨trivial, hK _ _ ?_⟩ | refine ⟨fun _ _ => trivial, hK _ _ ?_⟩
                          clear hK K
                          refine wpAny_take (i := 13) (oi := ⟨some 154, _, _, _, _, _⟩) (v := ?_) rfl (by kernel_rfl) (by kernel_rfl) (by kernel_rfl) (fun _ _ _ h => h) (Or.inl ⟨by rfl, ?_⟩) ?_
                          rotate_left
                          · intro w; go_simp <;> with_reducible rfl
                          simp only [Act.put, List.setIfInBounds_toArray, List.set_cons_zero, List.set_cons_succ]
                          try simp only [hd1]
                          try simp only [hd2]
                          refine wpAny_take (i := 19) (oi := ⟨some 160, _, _, _, _, _⟩) (v := ?_) rfl (by kernel_rfl) (by kernel_rfl) (by kernel_rfl) (fun _ _ _ h => h) (Or.inl ⟨by rfl, ?_⟩) ?_
                          rotate_left
                          · intro w; go_simp <;> with_reducible rfl
                          simp only [Act.put, List.setIfInBounds_toArray, List.set_cons_zero, List.set_cons_succ]
                          try simp only [hd1]
                          try simp only [hd2]
                          refine wpAny_take (i := 20) (oi := ⟨some 161, _, _, _, _, _⟩) (v := ?_) rfl (by kernel_rfl) (by kernel_rfl) (by kernel_rfl) (fun _ _ _ h => h) (Or.inl ⟨by rfl, ?_⟩) ?_
                          rotate_left
                          · intro w; go_simp <;> with_reducible rfl
                          simp only [Act.put, List.setIfInBounds_toArray, List.set_cons_zero, List.set_cons_succ]
                          try simp only [hd1]
                          try simp only [hd2]
                          refine wpAny_take (i := 21) (oi := ⟨some 162, _, _, _, _, _⟩) (v := ?_) rfl (by kernel_rfl) (by kernel_rfl) (by kernel_rfl) (fun _ _ _ h => h) (Or.inl ⟨by rfl, ?_⟩) ?_
                          rotate_left
                          · intro w; go_simp <;> with_reducible rfl
                          simp only [Act.put, List.setIfInBounds_toArray, List.set_cons_zero, List.set_cons_succ]
                          try simp only [hd1]
                          try simp only [hd2]
                          refine wpAny_take (i := 22) (oi := ⟨some 163, _, _, _, _, _⟩) (v := ?_) rfl (by kernel_rfl) (by kernel_rfl) (by kernel_rfl) (fun _ _ _ h => h) (Or.inl ⟨by rfl, ?_⟩) ?_
                          rotate_left
                          · intro w; go_simp <;> with_reducible rfl
                          simp only [Act.put, List.setIfInBounds_toArray, List.set_cons_zero, List.set_cons_succ]
                          try simp only [hd1]
                          try simp only [hd2]
                          refine wpAny_take (i := 23) (oi := ⟨some 164, _, _, _, _, _⟩) (v := ?_) rfl (by kernel_rfl) (by kernel_rfl) (by kernel_rfl) (fun _ _ _ h => h) (Or.inl ⟨by rfl, ?_⟩) ?_
                          rotate_left
                          · intro w; go_simp <;> with_reducible rfl
                          simp only [Act.put, List.setIfInBounds_toArray, List.set_cons_zero, List.set_cons_succ]
                          try simp only [hd1]
                          try simp only [hd2]
                          refine wpAny_take (i := 24) (oi := ⟨some 165, _, _, _, _, _⟩) (v := ?_) rfl (by kernel_rfl) (by kernel_rfl) (by kernel_rfl) (fun _ _ _ h => h) (Or.inl ⟨by rfl, ?_⟩) ?_
                          rotate_left
                          · intro w; go_simp <;> with_reducible rfl
                          simp only [Act.put, List.setIfInBounds_toArray, List.set_cons_zero, List.set_cons_succ]
                          try simp only [hd1]
                          try simp only [hd2]
                          refine wpAny_take (i := 25) (oi := ⟨some 166, _, _, _, _, _⟩) (v := ?_) rfl (by kernel_rfl) (by kernel_rfl) (by kernel_rfl) (fun _ _ _ h => h) (Or.inl ⟨by rfl, ?_⟩) ?_
                          rotate_left
                          · intro w; go_simp <;> with_reducible rfl
                          simp only [Act.put, List.setIfInBounds_toArray, List.set_cons_zero, List.set_cons_succ]
                          try simp only [hd1]
                          try simp only [hd2]
                          refine wpAny_take (i := 27) (oi := ⟨some 168, _, _, _, _, _⟩) (v := ?_) rfl (by kernel_rfl) (by kernel_rfl) (by kernel_rfl) (fun _ _ _ h => h) (Or.inl ⟨by rfl, ?_⟩) ?_
                          rotate_left
                          · intro w; go_simp <;> with_reducible rfl
                          simp only [Act.put, List.setIfInBounds_toArray, List.set_cons_zero, List.set_cons_succ]
                          try simp only [hd1]
                          try simp only [hd2]
                          refine wpAny_take (i := 28) (oi := ⟨some 169, _, _, _, _, _⟩) (v := ?_) rfl (by kernel_rfl) (by kernel_rfl) (by kernel_rfl) (fun _ _ _ h => h) (Or.inl ⟨by rfl, ?_⟩) ?_
                          rotate_left
                          · intro w; go_simp <;> with_reducible rfl
                          simp only [Act.put, List.setIfInBounds_toArray, List.set_cons_zero, List.set_cons_succ]
                          try simp only [hd1]
                          try simp only [hd2]
                          refine wpAny_take (i := 29) (oi := ⟨some 170, _, _, _, _, _⟩) (v := ?_) rfl (by kernel_rfl) (by kernel_rfl) (by kernel_rfl) (fun _ _ _ h => h) (Or.inl ⟨by rfl, ?_⟩) ?_
                          rotate_left
                          · intro w; go_simp <;> with_reducible rfl
                          simp only [Act.put, List.setIfInBounds_toArray, List.set_cons_zero, List.set_cons_succ]
                          try simp only [hd1]
                          try simp only [hd2]
                          refine wpAny_take (i := 30) (oi := ⟨some 171, _, _, _, _, _⟩) (v := ?_) rfl (by kernel_rfl) (by kernel_rfl) (by kernel_rfl) (fun _ _ _ h => h) (Or.inl ⟨by rfl, ?_⟩) ?_
                          rotate_left
                          · intro w; go_simp <;> with_reducible rfl
                          simp only [Act.put, List.setIfInBounds_toArray, List.set_cons_zero, List.set_cons_succ]
                          try simp only [hd1]
                          try simp only [hd2]
                          refine wpAny_ready (rs := [26, 31]) (by kernel_rfl) (by simp) ?_
                          refine AllReady.cons rfl (fun K hK => ?_) ?_
                          · go_simp
                            first | refine hK _ _ ?_ | refine ⟨trivial, hK _ _ ?_⟩ | refine ⟨fun _ _ => trivial, hK _ _ ?_⟩
                            clear hK K
                            refine wpAny_ready (rs := [31]) (by kernel_rfl) (by simp) ?_
                            refine AllReady.cons rfl (fun K hK => ?_) AllReady.nil
                            go_simp
                            first | refine hK _ _ ?_ | refine ⟨trivial, hK _ _ ?_⟩ | refine ⟨fun _ _ => trivial, hK _ _ ?_⟩
                            clear hK K
                            refine wpAny_take (i := 32) (oi := ⟨some 173, _, _, _, _, _⟩) (v := ?_) rfl (by kernel_rfl) (by kernel_rfl) (by kernel_rfl) (fun _ _ _ h => h) (Or.inl ⟨by rfl, ?_⟩) ?_
                            rotate_left
                            · intro w; go_simp <;> with_reducible rfl
                            simp only [Act.put, List.setIfInBounds_toArray, List.set_cons_zero, List.set_cons_succ]
                            try simp only [hd1]
                            try simp only [hd2]
                            refine wpAny_take (i := 33) (oi := ⟨some 174, _, _, _, _, _⟩) (v := ?_) rfl (by kernel_rfl) (by kernel_rfl) (by kernel_rfl) (fun _ _ _ h => h) (Or.inl ⟨by rfl, ?_⟩) ?_
                            rotate_left
                            · intro w; go_simp <;> with_reducible rfl
                            simp only [Act.put, List.setIfInBounds_toArray, List.set_cons_zero, List.set_cons_succ]
                            try simp only [hd1]
                            try simp only [hd2]
                            refine wpAny_done (by kernel_rfl) ?_ _
                            go_wp2_with (fail)
                            go_meet
                            exact ⟨rfl, BB⟩
                          refine AllReady.cons rfl (fun K hK => ?_) AllReady.nil
                          go_simp
                          first | refine hK _ _ ?_ | refine ⟨trivial, hK _ _ ?_⟩ | refine ⟨fun _ _ => trivial, hK _ _ ?_⟩
                          clear hK K
                          refine wpAny_ready (rs := [26]) (by kernel_rfl) (by simp) ?_
                          refine AllReady.cons rfl (fun K hK => ?_) AllReady.nil
                          go_simp
                          first | refine hK _ _ ?_ | refine ⟨trivial, hK _ _ ?_⟩ | refine ⟨fun _ _ => trivial, hK _ _ ?_⟩
                          clear hK K
                          refine wpAny_take (i := 32) (oi := ⟨some 173, _, _, _, _, _⟩) (v := ?_) rfl (by kernel_rfl) (by kernel_rfl) (by kernel_rfl) (fun _ _ _ h => h) (Or.inl ⟨by rfl, ?_⟩) ?_
                          rotate_left
                          · intro w; go_simp <;> with_reducible rfl
                          simp only [Act.put, List.setIfInBounds_toArray, List.set_cons_zero, List.set_cons_succ]
                          try simp only [hd1]
                          try simp only [hd2]
                          refine wpAny_take (i := 33) (oi := ⟨some 174, _, _, _, _, _⟩) (v := ?_) rfl (by kernel_rfl) (by kernel_rfl) (by kernel_rfl) (fun _ _ _ h => h) (Or.inl ⟨by rfl, ?_⟩) ?_
                          rotate_left
                          · intro w; go_simp <;> with_reducible rfl
                          simp only [Act.put, List.setIfInBounds_toArray, List.set_cons_zero, List.set_cons_succ]
                          try simp only [hd1]
                          try simp only [hd2]
                          refine wpAny_done (by kernel_rfl) ?_ _
                          go_wp2_with (fail)
                          go_meet
                          exact ⟨rfl, BB⟩
                        refine AllReady.cons rfl (fun K hK => ?_) AllReady.nil
                        go_simp
                        first | refine hK _ _ ?_ | refine ⟨trivial, hK _ _ ?_⟩ | refine ⟨fun _ _ => trivial, hK _ _ ?_⟩
                        clear hK K
                        refine wpAny_ready (rs := [5, 12]) (by kernel_rfl) (by simp) ?_
                        refine AllReady.cons rfl (fun K hK => ?_) ?_
                        · go_simp
                          first | refine hK _ _ ?_ | refine ⟨trivial, hK _ _ ?_⟩ | refine ⟨fun _ _ => trivial, hK _ _ ?_⟩
                          clear hK K
                          refine wpAny_ready (rs := [12]) (by kernel_rfl) (by simp) ?_
                          refine AllReady.cons rfl (fun K hK => ?_) AllReady.nil
                          go_simp
                          refine (kT.out _).mono ?_
                          rintro e wB ⟨rfl, bB⟩
                          have f0 := (bB.cell (p := ⟨pb, po + (k - 1) * 2, none⟩) (by show pb < wr.heap.size; omega)).trans (show wr.drew.cell? ⟨pb, po + (k - 1) * 2, none⟩ = _ from g0)
                          have f2 := (bB.cell (p := ⟨pb, po + k * 2, none⟩) (by show pb < wr.heap.size; omega)).trans (show wr.drew.cell? ⟨pb, po + k * 2, none⟩ = _ from g2)
                          have BB := (Below_dr hB).trans (bB.mono (by show wA.heap.size ≤ wr.heap.size; exact hB.size))
                          first | refine hK _ _ ?_ | refine ⟨trivial, hK _ _ ?_⟩ | refine ⟨fun _ _ => trivial, hK _ _ ?_⟩
                          clear hK K
                          refine wpAny_take (i := 13) (oi := ⟨some 154, _, _, _, _, _⟩) (v := ?_) rfl (by kernel_rfl) (by kernel_rfl) (by kernel_rfl) (fun _ _ _ h => h) (Or.inl ⟨by rfl, ?_⟩) ?_
                          rotate_left
                          · intro w; go_simp <;> with_reducible rfl
                          simp only [Act.put, List.setIfInBounds_toArray, List.set_cons_zero, List.set_cons_succ]
                          try simp only [hd1]
                          try simp only [hd2]
                          refine wpAny_take (i := 19) (oi := ⟨some 160, _, _, _, _, _⟩) (v := ?_) rfl (by kernel_rfl) (by kernel_rfl) (by kernel_rfl) (fun _ _ _ h => h) (Or.inl ⟨by rfl, ?_⟩) ?_
                          rotate_left
                          · intro w; go_simp <;> with_reducible rfl
                          simp only [Act.put, List.setIfInBounds_toArray, List.set_cons_zero, List.set_cons_succ]
                          try simp only [hd1]
                          try simp only [hd2]
                          refine wpAny_take (i := 20) (oi := ⟨some 161, _, _, _, _, _⟩) (v := ?_) rfl (by kernel_rfl) (by kernel_rfl) (by kernel_rfl) (fun _ _ _ h => h) (Or.inl ⟨by rfl, ?_⟩) ?_
                          rotate_left
                          · intro w; go_simp <;> with_reducible rfl
                          simp only [Act.put, List.setIfInBounds_toArray, List.set_cons_zero, List.set_cons_succ]
                          try simp only [hd1]
                          try simp only [hd2]
                          refine wpAny_take (i := 21) (oi := ⟨some 162, _, _, _, _, _⟩) (v := ?_) rfl (by kernel_rfl) (by kernel_rfl) (by kernel_rfl) (fun _ _ _ h => h) (Or.inl ⟨by rfl, ?_⟩) ?_
                          rotate_left
                          · intro w; go_simp <;> with_reducible rfl
                          simp only [Act.put, List.setIfInBounds_toArray, List.set_cons_zero, List.set_cons_succ]
                          try simp only [hd1]
                          try simp only [hd2]
                          refine wpAny_take (i := 22) (oi := ⟨some 163, _, _, _, _, _⟩) (v := ?_) rfl (by kernel_rfl) (by kernel_rfl) (by kernel_rfl) (fun _ _ _ h => h) (Or.inl ⟨by rfl, ?_⟩) ?_
                          rotate_left
                          · intro w; go_simp <;> with_reducible rfl
                          simp only [Act.put, List.setIfInBounds_toArray, List.set_cons_zero, List.set_cons_succ]
                          try simp only [hd1]
                          try simp only [hd2]
                          refine wpAny_take (i := 23) (oi := ⟨some 164, _, _, _, _, _⟩) (v := ?_) rfl (by kernel_rfl) (by kernel_rfl) (by kernel_rfl) (fun _ _ _ h => h) (Or.inl ⟨by rfl, ?_⟩) ?_
                          rotate_left
                          · intro w; go_simp <;> with_reducible rfl
                          simp only [Act.put, List.setIfInBounds_toArray, List.set_cons_zero, List.set_cons_succ]
                          try simp only [hd1]
                          try simp only [hd2]
                          refine wpAny_take (i := 24) (oi := ⟨some 165, _, _, _, _, _⟩) (v := ?_) rfl (by kernel_rfl) (by kernel_rfl) (by kernel_rfl) (fun _ _ _ h => h) (Or.inl ⟨by rfl, ?_⟩) ?_
                          rotate_left
                          · intro w; go_simp <;> with_reducible rfl
                          simp only [Act.put, List.setIfInBounds_toArray, List.set_cons_zero, List.set_cons_succ]
                          try simp only [hd1]
                          try simp only [hd2]
                          refine wpAny_take (i := 25) (oi := ⟨some 166, _, _, _, _, _⟩) (v := ?_) rfl (by kernel_rfl) (by kernel_rfl) (by kernel_rfl) (fun _ _ _ h => h) (Or.inl ⟨by rfl, ?_⟩) ?_
                          rotate_left
                          · intro w; go_simp <;> with_reducible rfl
                          simp only [Act.put, List.setIfInBounds_toArray, List.set_cons_zero, List.set_cons_succ]
                          try simp only [hd1]
                          try simp only [hd2]
                          refine wpAny_take (i := 27) (oi := ⟨some 168, _, _, _, _, _⟩) (v := ?_) rfl (by kernel_rfl) (by kernel_rfl) (by kernel_rfl) (fun _ _ _ h => h) (Or.inl ⟨by rfl, ?_⟩) ?_
                          rotate_left
                          · intro w; go_simp <;> with_reducible rfl
                          simp only [Act.put, List.setIfInBounds_toArray, List.set_cons_zero, List.set_cons_succ]
                          try simp only [hd1]
                          try simp only [hd2]
                          refine wpAny_take (i := 28) (oi := ⟨some 169, _, _, _, _, _⟩) (v := ?_) rfl (by kernel_rfl) (by kernel_rfl) (by kernel_rfl) (fun _ _ _ h => h) (Or.inl ⟨by rfl, ?_⟩) ?_
                          rotate_left
                          · intro w; go_simp <;> with_reducible rfl
                          simp only [Act.put, List.setIfInBounds_toArray, List.set_cons_zero, List.set_cons_succ]
                          try simp only [hd1]
                          try simp only [hd2]
                          refine wpAny_take (i := 29) (oi := ⟨some 170, _, _, _, _, _⟩) (v := ?_) rfl (by kernel_rfl) (by kernel_rfl) (by kernel_rfl) (fun _ _ _ h => h) (Or.inl ⟨by rfl, ?_⟩) ?_
                          rotate_left
                          · intro w; go_simp <;> with_reducible rfl
                          simp only [Act.put, List.setIfInBounds_toArray, List.set_cons_zero, List.set_cons_succ]
                          try simp only [hd1]
                          try simp only [hd2]
                          refine wpAny_take (i := 30) (oi := ⟨some 171, _, _, _, _, _⟩) (v := ?_) rfl (by kernel_rfl) (by kernel_rfl) (by kernel_rfl) (fun _ _ _ h => h) (Or.inl ⟨by rfl, ?_⟩) ?_
                          rotate_left
                          · intro w; go_simp <;> with_reducible rfl
                          simp only [Act.put, List.setIfInBounds_toArray, List.set_cons_zero, List.set_cons_succ]
                          try simp only [hd1]
                          try simp only [hd2]
                          refine wpAny_ready (rs := [26, 31]) (by kernel_rfl) (by simp) ?_
                          refine AllReady.cons rfl (fun K hK => ?_) ?_
                          · go_simp
                            first | refine hK _ _ ?_ | refine ⟨trivial, hK _ _ ?_⟩ | refine ⟨fun _ _ => trivial, hK _ _ ?_⟩
                            clear hK K
                            refine wpAny_ready (rs := [31]) (by kernel_rfl) (by simp) ?_
                            refine AllReady.cons rfl (fun K hK => ?_) AllReady.nil
                            go_simp
                            first | refine hK _ _ ?_ | refine ⟨trivial, hK _ _ ?_⟩ | refine ⟨fun _ _ => trivial, hK _ _ ?_⟩
                            clear hK K
                            refine wpAny_take (i := 32) (oi := ⟨some 173, _, _, _, _, _⟩) (v := ?_) rfl (by kernel_rfl) (by kernel_rfl) (by kernel_rfl) (fun _ _ _ h => h) (Or.inl ⟨by rfl, ?_⟩) ?_
                            rotate_left
                            · intro w; go_simp <;> with_reducible rfl
                            simp only [Act.put, List.setIfInBounds_toArray, List.set_cons_zero, List.set_cons_succ]
                            try simp only [hd1]
                            try simp only [hd2]
                            refine wpAny_take (i := 33) (oi := ⟨some 174, _, _, _, _, _⟩) (v := ?_) rfl (by kernel_rfl) (by kernel_rfl) (by kernel_rfl) (fun _ _ _ h => h) (Or.inl ⟨by rfl, ?_⟩) ?_
                            rotate_left
                            · intro w; go_simp <;> with_reducible rfl
                            simp only [Act.put, List.setIfInBounds_toArray, List.set_cons_zero, List.set_cons_succ]
                            try simp only [hd1]
                            try simp only [hd2]
                            refine wpAny_done (by kernel_rfl) ?_ _
                            go_wp2_with (fail)
                            go_meet
                            exact ⟨rfl, BB⟩
                          refine AllReady.cons rfl (fun K hK => ?_) AllReady.nil
                          go_simp
                          first | refine hK _ _ ?_ | refine ⟨trivial, hK _ _ ?_⟩ | refine ⟨fun _ _ => trivial, hK _ _ ?_⟩
                          clear hK K
                          refine wpAny_ready (rs := [26]) (by kernel_rfl) (by simp) ?_
                          refine AllReady.cons rfl (fun K hK => ?_) AllReady.nil
                          go_simp
                          first | refine hK _ _ ?_ | refine ⟨trivial, hK _ _ ?_⟩ | refine ⟨fun _ _ => trivial, hK _ _ ?_⟩
                          clear hK K
                          refine wpAny_take (i := 32) (oi := ⟨some 173, _, _, _, _, _⟩) (v := ?_) rfl (by kernel_rfl) (by kernel_rfl) (by kernel_rfl) (fun _ _ _ h => h) (Or.inl ⟨by rfl, ?_⟩) ?_
                          rotate_left
                          · intro w; go_simp <;> with_reducible rfl
                          simp only [Act.put, List.setIfInBounds_toArray, List.set_cons_zero, List.set_cons_succ]
                          try simp only [hd1]
                          try simp only [hd2]
                          refine wpAny_take (i := 33) (oi := ⟨some 174, _, _, _, _, _⟩) (v := ?_) rfl (by kernel_rfl) (by kernel_rfl) (by kernel_rfl) (fun _ _ _ h => h) (Or.inl ⟨by rfl, ?_⟩) ?_
                          rotate_left
                          · intro w; go_simp <;> with_reducible rfl
                          simp only [Act.put, List.setIfInBounds_toArray, List.set_cons_zero, List.set_cons_succ]
                          try simp only [hd1]
                          try simp only [hd2]
                          refine wpAny_done (by kernel_rfl) ?_ _
                          go_wp2_with (fail)
                          go_meet
                          exact ⟨rfl, BB⟩
                        refine AllReady.cons rfl (fun K hK => ?_) AllReady.nil
                        go_simp
                        refine (kT.out _).mono ?_
                        rintro e wB ⟨rfl, bB⟩
                        have f0 := (bB.cell (p := ⟨pb, po + (k - 1) * 2, none⟩) (by show pb < wr.heap.size; omega)).trans (show wr.drew.cell? ⟨pb, po + (k - 1) * 2, none⟩ = _ from g0)
                        have f2 := (bB.cell (p := ⟨pb, po + k * 2, none⟩) (by show pb < wr.heap.size; omega)).trans (show wr.drew.cell? ⟨pb, po + k * 2, none⟩ = _ from g2)
                        have BB := (Below_dr hB).trans (bB.mono (by show wA.heap.size ≤ wr.heap.size; exact hB.size))
                        first | refine hK _ _ ?_ | refine ⟨trivial, hK _ _ ?_⟩ | refine ⟨fun _ _ => trivial, hK _ _ ?_⟩
                        clear hK K
                        refine wpAny_ready (rs := [5]) (by kernel_rfl) (by simp) ?_
                        refine AllReady.cons rfl (fun K hK => ?_) AllReady.nil
                        go_simp
                        first | refine hK _ _ ?_ | refine ⟨trivial, hK _ _ ?_⟩ | refine ⟨fun _ _ => trivial, hK _ _ ?_⟩
                        clear hK K
                        refine wpAny_take (i := 13) (oi := ⟨some 154, _, _, _, _, _⟩) (v := ?_) rfl (by kernel_rfl) (by kernel_rfl) (by kernel_rfl) (fun _ _ _ h => h) (Or.inl ⟨by rfl, ?_⟩) ?_
                        rotate_left
                        · intro w; go_simp <;> with_reducible rfl
                        simp only [Act.put, List.setIfInBounds_toArray, List.set_cons_zero, List.set_cons_succ]
                        try simp only [hd1]
                        try simp only [hd2]
                        refine wpAny_take (i := 19) (oi := ⟨some 160, _, _, _, _, _⟩) (v := ?_) rfl (by kernel_rfl) (by kernel_rfl) (by kernel_rfl) (fun _ _ _ h => h) (Or.inl ⟨by rfl, ?_⟩) ?_
                        rotate_left
                        · intro w; go_simp <;> with_reducible rfl
                        simp only [Act.put, List.setIfInBounds_toArray, List.set_cons_zero, List.set_cons_succ]
                        try simp only [hd1]
                        try simp only [hd2]
                        refine wpAny_take (i := 20) (oi := ⟨some 161, _, _, _, _, _⟩) (v := ?_) rfl (by kernel_rfl) (by kernel_rfl) (by kernel_rfl) (fun _ _ _ h => h) (Or.inl ⟨by rfl, ?_⟩) ?_
                        rotate_left
                        · intro w; go_simp <;> with_reducible rfl
                        simp only [Act.put, List.setIfInBounds_toArray, List.set_cons_zero, List.set_cons_succ]
                        try simp only [hd1]
                        try simp only [hd2]
                        refine wpAny_take (i := 21) (oi := ⟨some 162, _, _, _, _, _⟩) (v := ?_) rfl (by kernel_rfl) (by kernel_rfl) (by kernel_rfl) (fun _ _ _ h => h) (Or.inl ⟨by rfl, ?_⟩) ?_
                        rotate_left
                        · intro w; go_simp <;> with_reducible rfl
                        simp only [Act.put, List.setIfInBounds_toArray, List.set_cons_zero, List.set_cons_succ]
                        try simp only [hd1]
                        try simp only [hd2]
                        refine wpAny_take (i := 22) (oi := ⟨some 163, _, _, _, _, _⟩) (v := ?_) rfl (by kernel_rfl) (by kernel_rfl) (by kernel_rfl) (fun _ _ _ h => h) (Or.inl ⟨by rfl, ?_⟩) ?_
                        rotate_left
                        · intro w; go_simp <;> with_reducible rfl
                        simp only [Act.put, List.setIfInBounds_toArray, List.set_cons_zero, List.set_cons_succ]
                        try simp only [hd1]
                        try simp only [hd2]
                        refine wpAny_take (i := 23) (oi := ⟨some 164, _, _, _, _, _⟩) (v := ?_) rfl (by kernel_rfl) (by kernel_rfl) (by kernel_rfl) (fun _ _ _ h => h) (Or.inl ⟨by rfl, ?_⟩) ?_
                        rotate_left
                        · intro w; go_simp <;> with_reducible rfl
                        simp only [Act.put, List.setIfInBounds_toArray, List.set_cons_zero, List.set_cons_succ]
                        try simp only [hd1]
                        try simp only [hd2]
                        refine wpAny_take (i := 24) (oi := ⟨some 165, _, _, _, _, _⟩) (v := ?_) rfl (by kernel_rfl) (by kernel_rfl) (by kernel_rfl) (fun _ _ _ h => h) (Or.inl ⟨by rfl, ?_⟩) ?_
                        rotate_left
                        · intro w; go_simp <;> with_reducible rfl
                        simp only [Act.put, List.setIfInBounds_toArray, List.set_cons_zero, List.set_cons_succ]
                        try simp only [hd1]
                        try simp only [hd2]
                        refine wpAny_take (i := 25) (oi := ⟨some 166, _, _, _, _, _⟩) (v := ?_) rfl (by kernel_rfl) (by kernel_rfl) (by kernel_rfl) (fun _ _ _ h => h) (Or.inl ⟨by rfl, ?_⟩) ?_
                        rotate_left
                        · intro w; go_simp <;> with_reducible rfl
                        simp only [Act.put, List.setIfInBounds_toArray, List.set_cons_zero, List.set_cons_succ]
                        try simp only [hd1]
                        try simp only [hd2]
                        refine wpAny_take (i := 27) (oi := ⟨some 168, _, _, _, _, _⟩) (v := ?_) rfl (by kernel_rfl) (by kernel_rfl) (by kernel_rfl) (fun _ _ _ h => h) (Or.inl ⟨by rfl, ?_⟩) ?_
                        rotate_left
                        · intro w; go_simp <;> with_reducible rfl
                        simp only [Act.put, List.setIfInBounds_toArray, List.set_cons_zero, List.set_cons_succ]
                        try simp only [hd1]
                        try simp only [hd2]
                        refine wpAny_take (i := 28) (oi := ⟨some 169, _, _, _, _, _⟩) (v := ?_) rfl (by kernel_rfl) (by kernel_rfl) (by kernel_rfl) (fun _ _ _ h => h) (Or.inl ⟨by rfl, ?_⟩) ?_
                        rotate_left
                        · intro w; go_simp <;> with_reducible rfl
                        simp only [Act.put, List.setIfInBounds_toArray, List.set_cons_zero, List.set_cons_succ]
                        try simp only [hd1]
                        try simp only [hd2]
                        refine wpAny_take (i := 29) (oi := ⟨some 170, _, _, _, _, _⟩) (v := ?_) rfl (by kernel_rfl) (by kernel_rfl) (by kernel_rfl) (fun _ _ _ h => h) (Or.inl ⟨by rfl, ?_⟩) ?_
                        rotate_left
                        · intro w; go_simp <;> with_reducible rfl
                        simp only [Act.put, List.setIfInBounds_toArray, List.set_cons_zero, List.set_cons_succ]
                        try simp only [hd1]
                        try simp only [hd2]
                        refine wpAny_take (i := 30) (oi := ⟨some 171, _, _, _, _, _⟩) (v := ?_) rfl (by kernel_rfl) (by kernel_rfl) (by kernel_rfl) (fun _ _ _ h => h) (Or.inl ⟨by rfl, ?_⟩) ?_
                        rotate_left
                        · intro w; go_simp <;> with_reducible rfl
                        simp only [Act.put, List.setIfInBounds_toArray, List.set_cons_zero, List.set_cons_succ]
                        try simp only [hd1]
                        try simp only [hd2]
                        refine wpAny_ready (rs := [26, 31]) (by kernel_rfl) (by simp) ?_
                        refine AllReady.cons rfl (fun K hK => ?_) ?_
                        · go_simp
                          first | refine hK _ _ ?_ | refine ⟨trivial, hK _ _ ?_⟩ | refine ⟨fun _ _ => trivial, hK _ _ ?_⟩
                          clear hK K
                          refine wpAny_ready (rs := [31]) (by kernel_rfl) (by simp) ?_
                          refine AllReady.cons rfl (fun K hK => ?_) AllReady.nil
                          go_simp
                          first | refine hK _ _ ?_ | refine ⟨trivial, hK _ _ ?_⟩ | refine ⟨fun _ _ => trivial, hK _ _ ?_⟩
                          clear hK K
                          refine wpAny_take (i := 32) (oi := ⟨some 173, _, _, _, _, _⟩) (v := ?_) rfl (by kernel_rfl) (by kernel_rfl) (by kernel_rfl) (fun _ _ _ h => h) (Or.inl ⟨by rfl, ?_⟩) ?_
                          rotate_left
                          · intro w; go_simp <;> with_reducible rfl
                          simp only [Act.put, List.setIfInBounds_toArray, List.set_cons_zero, List.set_cons_succ]
                          try simp only [hd1]
                          try simp only [hd2]
                          refine wpAny_take (i := 33) (oi := ⟨some 174, _, _, _, _, _⟩) (v := ?_) rfl (by kernel_rfl) (by kernel_rfl) (by kernel_rfl) (fun _ _ _ h => h) (Or.inl ⟨by rfl, ?_⟩) ?_
                          rotate_left
                          · intro w; go_simp <;> with_reducible rfl
                          simp only [Act.put, List.setIfInBounds_toArray, List.set_cons_zero, List.set_cons_succ]
                          try simp only [hd1]
                          try simp only [hd2]
                          refine wpAny_done (by kernel_rfl) ?_ _
                          go_wp2_with (fail)
                          go_meet
                          exact ⟨rfl, BB⟩
                        refine AllReady.cons rfl (fun K hK => ?_) AllReady.nil
                        go_simp
                        first | refine hK _ _ ?_ | refine ⟨trivial, hK _ _ ?_⟩ | refine ⟨fun _ _ => trivial, hK _ _ ?_⟩
                        clear hK K
                        refine wpAny_ready (rs := [26]) (by kernel_rfl) (by simp) ?_
                        refine AllReady.cons rfl (fun K hK => ?_) AllReady.nil
                        go_simp
                        first | refine hK _ _ ?_ | refine ⟨trivial, hK _ _ ?_⟩ | refine ⟨fun _ _ => trivial, hK _ _ ?_⟩
                        clear hK K
                        refine wpAny_take (i := 32) (oi := ⟨some 173, _, _, _, _, _⟩) (v := ?_) rfl (by kernel_rfl) (by kernel_rfl) (by kernel_rfl) (fun _ _ _ h => h) (Or.inl ⟨by rfl, ?_⟩) ?_
                        rotate_left
                        · intro w; go_simp <;> with_reducible rfl
                        simp only [Act.put, List.setIfInBounds_toArray, List.set_cons_zero, List.set_cons_succ]
                        try simp only [hd1]
                        try simp only [hd2]
                        refine wpAny_take (i := 33) (oi := ⟨some 174, _, _, _, _, _⟩) (v := ?_) rfl (by kernel_rfl) (by kernel_rfl) (by kernel_rfl) (fun _ _ _ h => h) (Or.inl ⟨by rfl, ?_⟩) ?_
                        rotate_left
                        · intro w; go_simp <;> with_reducible rfl
                        simp only [Act.put, List.setIfInBounds_toArray, List.set_cons_zero, List.set_cons_succ]
                        try simp only [hd1]
                        try simp only [hd2]
                        refine wpAny_done (by kernel_rfl) ?_ _
                        go_wp2_with (fail)
                        go_meet
                        exact ⟨rfl, BB⟩
                      case rest => as_aux_lemma =>
                        obtain ⟨rfl, BC⟩ := hcut
                        go_wp2_with (fail)
                        exact ⟨⟨k + 1, by omega, by omega, by go_num, BC⟩, by simp [RowKit.intOf]; omega⟩
                    · obtain rfl : k = PE.length := by omega
                      have gz2 := (hB.cell (p := ⟨pb, po, none⟩) hpbl).trans gz
                      have BW := BA.trans (hB.mono BA.size)
                      clear e4 bQ L5 L6
                      go_wp2_with (fail)
                      refine (cW.out _ BW).mono ?_
                      rintro e wD ⟨rfl, bD⟩
                      go_wp2
                      go_ret
                      exact ⟨rfl, BW.trans (bD.mono BW.size)⟩
end Go.Proofs.YtgakaomcdpgnkaaDoor
