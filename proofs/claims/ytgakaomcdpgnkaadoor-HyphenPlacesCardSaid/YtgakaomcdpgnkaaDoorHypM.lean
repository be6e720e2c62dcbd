/- The walk of HyphenPlaces. -/
import Derived.Test.YtgakaomcdpgnkaaDoorHypK
import Derived.Test.YtgakaomcdpgnkaaDoorHypN
import Derived.Test.YtgakaomcdpgnkaaDoorHypO
import Derived.Test.YtgakaomcdpgnkaaDoorUtfH
import Derived.Test.YtgakaomcdpgnkaaDoorLaw3
namespace Go.Proofs.YtgakaomcdpgnkaaDoor
open Go.RowKit Go.Shelf

set_option maxRecDepth 100000 in
set_option maxHeartbeats 4000000 in
theorem HyphenPlaces_any (s : ByteArray) (gv : Value) (G : List Bool) (w : World) (hG : Sl w 1 encF gv G) (hR : Asp w) :
    Calls Tryd.prog 6 #[.string s, gv] w fun e w' => e = .returned (.bool true) ∧ Below w.heap.size w w' := by
  have cW := hid (fun W (hB : Below w.heap.size w W) => wakes13 W (hR.below hB))
  obtain ⟨pg, cg, rfl, hgl⟩ := hG.shape
  by_cases h0 : (s.size : Int) ≤ 500
  · by_cases hg5 : (G.length : Int) ≤ 500
    · have hfacts : (Lib.validD s.data.toList = false → numbersL s.data.toList = [] ∧ sgn s.data.toList = []) ∧
          (Lib.validD s.data.toList = true → (∀ x ∈ sgn s.data.toList, okv x) ∧ numbersL (txt (turnL G (sgn s.data.toList))) = numbersL s.data.toList ∧ (txt (turnL G (sgn s.data.toList))).length = s.size) := by
        refine ⟨fun h => ⟨numbers_invalid h, sgn_no h⟩, fun h => ?_⟩
        obtain ⟨h1, h2⟩ := sgn_yes h
        have h3 := turn_txt G (sgn s.data.toList)
        have h4 := congrArg List.length h3
        rw [List.length_map, List.length_map, ← h2] at h4
        refine ⟨h1, ?_, by rw [h4, Array.length_toList]; rfl⟩
        rw [numbers_low h3, ← h2]
      have hLs : (sgn s.data.toList).length ≤ s.size := sgn_len s
      have cN := hid (Nums_at hR (Below.refl _ _) s _ (by omega) rfl)
      have cP := hid (fun W (hB : Below w.heap.size w W) => Pts_at hR hB s _ (by omega) rfl)
      have cS := hid (fun W => RSigns_own s W (by omega))
      have cN2 := hid (fun W (hB : Below w.heap.size w W) (T : ByteArray) h1 h2 => Nums_at hR hB T (numbersL s.data.toList) h1 h2)
      have cP2 := hid (fun W (hB : Below w.heap.size w W) (T : ByteArray) h1 h2 => Pts_at hR hB T (pointsL (numbersL s.data.toList)) h1 h2)
      have hdg := dig_numbersL s.data.toList
      have hln := numbersL_len s.data.toList
      have hce := cnt_end (numbersL s.data.toList)
      have hcy := fun k hk h => @cnt_yes (numbersL s.data.toList) k hk h
      have hcn := fun k h => @cnt_no (numbersL s.data.toList) k h
      have hpp : pointsL (numbersL s.data.toList) = pointsL (numbersL s.data.toList) := rfl
      generalize hPL : pointsL (numbersL s.data.toList) = PL at *
      generalize numbersL s.data.toList = NL at *
      generalize Lib.validD s.data.toList = vd at *
      generalize sgn s.data.toList = L at *
      clear hpp
      replace hfacts := hid hfacts
      replace hPL := hid hPL
      replace hcy := hid hcy
      replace hcn := hid hcn
      replace hce := hid hce
      go_enter Tryd.func6, Tryd.ntmps6
      go_wp2_with (fail)
      refine cN.out.mono ?_
      rintro e w1 ⟨v1, rfl, s1, -, b1⟩
      go_wp2_with (fail)
      refine (cP.out _ b1).mono ?_
      rintro e w2 ⟨v2, rfl, s2, k2, b2⟩
      replace s1 := (Kept.of_below k2 0).sl s1
      obtain ⟨p1, c1, rfl, u1⟩ := s1.shape
      obtain ⟨p2, c2, rfl, u2⟩ := s2.shape
      clear cN cP b1 k2
      go_wp2_with (fail)
      go_loopw [7, 8] (fun a i wr => ∃ q : Nat, q ≤ NL.length ∧ i = .int .i64 q ∧ a = .int .i64 (cnt NL q) ∧ wr = w2) (fun _ i _ => NL.length - (RowKit.intOf i).toNat)
      case atStart => exact ⟨0, by omega, rfl, by rw [cnt_zero]; rfl, rfl⟩
      case round =>
        obtain ⟨q, hq, rfl, rfl, rfl⟩ := hrel
        by_cases hql : q < NL.length
        · have hqI : (q : Int) < NL.length := by omega
          obtain ⟨nb, no, cap, e1, e2, e3, e4⟩ := s1.open (by rintro rfl; simp at hql)
          simp only [Value.slice.injEq] at e1
          obtain ⟨rfl, -, rfl⟩ := e1
          have hck := rangeAt_one (e4 q NL[q] (List.getElem?_eq_getElem hql))
          rw [Nat.mul_one] at hck
          have hgd : NL.getD q 0 = NL[q] := by rw [List.getD_eq_getElem?_getD, List.getElem?_eq_getElem hql]; rfl
          have hnd := hdg NL[q] (List.getElem_mem _)
          have hyes := hcy.out q hql
          have hno := hcn.out q
          rw [hgd] at hyes hno
          clear e4
          generalize NL[q] = n at *
          by_cases c1 : n % 2 = 1
          · by_cases c2 : (1 : Int) ≤ q
            · by_cases c3 : (3 : Int) ≤ NL.length + 1 - (q + 1)
              · by_cases c4 : (5 : Int) ≤ NL.length + 1
                · obtain ⟨y1, y2⟩ := hyes ⟨c1, by omega, by omega, by omega⟩
                  have hlt : cnt NL q < PL.length := (List.getElem?_eq_some_iff.1 y2).1
                  have hltI : (cnt NL q : Int) < PL.length := by omega
                  obtain ⟨mb, mo, cap2, e1, e5, e6, e7⟩ := s2.open (by rintro rfl; simp at hlt)
                  simp only [Value.slice.injEq] at e1
                  obtain ⟨rfl, -, rfl⟩ := e1
                  have hpk := rangeAt_one (e7 _ _ y2)
                  rw [Nat.mul_one] at hpk
                  replace y1 := hid y1
                  clear y2 e7 hno hyes
                  generalize cnt NL q = cc at *
                  have hwc : IntKind.i64.wrap ((cc : Int) + 1) = cc + 1 := IntWalk.i64_in _ (by unfold maxLen at u2; omega)
                  go_wp2_with (fail)
                  exact ⟨⟨q + 1, by omega, by go_num, by rw [y1.out]; go_num, trivial⟩, by simp [RowKit.intOf]; omega⟩
                · exact absurd (by omega) c4
              · have hn := hid (hno (by rintro ⟨d1, d2, d3, d4⟩; omega))
                go_wp2_with (fail)
                exact ⟨⟨q + 1, by omega, by go_num, by rw [hn.out], trivial⟩, by simp [RowKit.intOf]; omega⟩
            · have hn := hid (hno (by rintro ⟨d1, d2, d3, d4⟩; omega))
              go_wp2_with (fail)
              exact ⟨⟨q + 1, by omega, by go_num, by rw [hn.out], trivial⟩, by simp [RowKit.intOf]; omega⟩
          · have hn := hid (hno (by rintro ⟨d1, d2, d3, d4⟩; omega))
            go_wp2_with (fail)
            exact ⟨⟨q + 1, by omega, by go_num, by rw [hn.out], trivial⟩, by simp [RowKit.intOf]; omega⟩
        · obtain rfl : q = NL.length := by omega
          have hce2 := hce.out
          rw [hce2]
          go_wp2_with (fail)
          refine (cS.out _).mono ?_
          rintro e w3 ⟨v3, rfl, r3, k3⟩
          obtain ⟨p3, c3, rfl, u3, u4⟩ := owns_shape r3
          unfold maxLen at u4
          have hbx := World.alloc_heap_new w3 (.cells #[.slice p3 L.length c3, .bool vd] 52)
          have r4 := r3.alloc (.cells #[.slice p3 L.length c3, .bool vd] 52)
          have k4 := k3.alloc k3.size (.cells #[.slice p3 L.length c3, .bool vd] 52)
          have hz4 : (w3.alloc (.cells #[.slice p3 L.length c3, .bool vd] 52)).heap.size = w3.heap.size + 1 := by simp
          have hz3 := k3.size
          have hz0 := b2.size
          have hbd : ∀ x ∈ L, 0 ≤ x ∧ x ≤ 1114111 := by
            cases vd
            · intro x hx; rw [(hfacts.out.1 rfl).2] at hx; cases hx
            · exact fun x hx => okv_rng ((hfacts.out.2 rfl).1 x hx)
          go_wp2_with (fail)
          generalize w3.alloc (.cells #[.slice p3 L.length c3, .bool vd] 52) = w4 at *
          generalize w3.heap.size = bx at *
          clear r3 k3 hcy hcn hce hce2 hdg hq hql cS
          obtain ⟨w2, hw2⟩ : ∃ w2, w2 = wr := ⟨_, rfl⟩
          subst hw2
          go_loopw [11] (fun i wx => ∃ q : Nat, q ≤ L.length ∧ q ≤ G.length ∧ i = .int .i64 q ∧ wx.ownsRow (w2.heap.size + 1) 3 1 (.slice p3 L.length c3) L.length ((turnL (G.take q) L).flatMap encI) ∧ wx.heap[bx]? = some (.cells #[.slice p3 L.length c3, .bool vd] 52 (0, 0)) ∧ Below (w2.heap.size + 1) w4 wx) (fun i _ => L.length - (RowKit.intOf i).toNat)
          case atStart => exact ⟨0, by omega, by omega, rfl, by rw [List.take_zero, turnL_nil]; exact r4, hbx, Below.refl _ _⟩
          case round =>
            obtain ⟨q, hq1, hq2, rfl, hrow, hbxr, hB⟩ := hrel
            have hb0 := cell_blk hbxr (i := 0) rfl
            have hb1 := cell_blk hbxr (i := 1) rfl
            by_cases d1 : q < L.length
            · by_cases d2 : q < G.length
              · have hBr := k4.trans (hB.mono (by omega))
                have hGr := (Kept.of_below hBr 0).sl ((Kept.of_below b2 0).sl hG)
                have hxb := hbd L[q] (List.getElem_mem _)
                obtain ⟨gb, rfl, hg1, ⟨x0, hgc⟩, hgf, hset, ⟨cur, fr, hcur⟩, hgn⟩ := owns_set hrow (i := q) d1 (.int .i64 (lower L[q] - 32))
                have hgbx := hgn _ _ _ _ hbxr (by decide)
                have hcell : wr.cell? ⟨gb, q, none⟩ = some (.int .i64 L[q]) := by
                  have hTl : (turnL (G.take q) L).length = L.length := turnL_len _ _
                  have h1 := sl_of_owns (enc := encI) (l := turnL (G.take q) L) (e := 3) (base := w2.heap.size + 1) (k := 1) (v := .slice (some ⟨gb, 0, none⟩) L.length c3) (fun _ _ => rfl) (by rw [hTl]; exact hrow)
                  rcases h1 with ⟨h2, -⟩ | ⟨a, cap, h2, -, -, -, h6⟩
                  · cases h2
                  · simp only [Value.slice.injEq, Option.some.injEq] at h2
                    obtain ⟨rfl, -, -⟩ := h2
                    have := rangeAt_one (h6 q L[q] ((turnL_at L G q).trans (List.getElem?_eq_getElem d1)))
                    simpa using this
                obtain ⟨fb, fo, cap, e1, e2, e3, e4⟩ := hGr.open (by rintro rfl; simp at d2)
                simp only [Value.slice.injEq] at e1
                obtain ⟨rfl, -, rfl⟩ := e1
                have hgc2 := rangeAt_one (e4 q G[q] (List.getElem?_eq_getElem d2))
                rw [Nat.mul_one] at hgc2
                have hsame := turnL_step L G q d2 d1
                have hstep := hid hsame
                replace hsame := @turn_same L G q d2 d1
                have cL := hid (fun w' => RLower_any L[q] w' (by omega) (by omega))
                have hlw : -9223372036854775808 ≤ lower L[q] ∧ lower L[q] ≤ 9223372036854775807 := lower_bd (by omega) (by omega)
                have hqI : (q : Int) < L.length := by omega
                have hqG : (q : Int) < G.length := by omega
                have hdef : ∀ g x, turnS g x = if g = true ∧ 97 ≤ lower x ∧ lower x ≤ 122 then lower x - 32 else x := fun _ _ => rfl
                clear e4 hgn hGr hBr hgc
                generalize G[q] = g at *
                generalize L[q] = x at *
                generalize hy : lower x = y at *
                cases g
                · 
                  have hq := hid (show turnL (G.take (q + 1)) L = turnL (G.take q) L from hsame (by rw [turnS, if_neg]; rintro ⟨f1, f2, f3⟩; cases f1))
                  go_wp2_with (fail)
                  refine (cL.out _).mono ?_
                  rintro e w' ⟨rfl, rfl⟩
                  go_wp2_with (fail)
                  exact ⟨⟨q + 1, by omega, by omega, by go_num, by rw [hq.out]; exact hrow, hbxr, hB⟩, by simp [RowKit.intOf]; omega⟩
                · by_cases f97 : 97 ≤ y
                  · by_cases f122 : y ≤ 122
                    · have hwy : IntKind.i64.wrap (y - 32) = y - 32 := IntWalk.i64_in _ (by omega)
                      have hq := hid (show turnL (G.take (q + 1)) L = (turnL (G.take q) L).set q (y - 32) by rw [hstep.out, hdef, hy, if_pos ⟨rfl, f97, f122⟩])
                      have hrow2 := hid (show (wr.setCell ⟨gb, q, none⟩ (.int .i64 (y - 32))).ownsRow (w2.heap.size + 1) 3 1 (.slice (some ⟨gb, 0, none⟩) L.length c3) L.length ((turnL (G.take (q + 1)) L).flatMap encI) by
                        rw [hq.out, map_encI, List.map_set, ← map_encI]; exact hset)
                      have hbx2 := hid (show (wr.setCell ⟨gb, q, none⟩ (.int .i64 (y - 32))).heap[bx]? = _ from (setCell_off hgbx).trans hbxr)
                      have hB2 := hid (hB.setCell (p := ⟨gb, q, none⟩) hg1 (.int .i64 (y - 32)))
                      clear hset hcur hstep hsame hq
                      go_wp2_with (fail)
                      refine (cL.out _).mono ?_
                      rintro e w' ⟨rfl, rfl⟩
                      go_wp2_with (fail)
                      exact ⟨⟨q + 1, by omega, by omega, by go_num, hrow2.out, hbx2.out, hB2.out⟩, by simp [RowKit.intOf]; omega⟩
                    · 
                      have hq := hid (show turnL (G.take (q + 1)) L = turnL (G.take q) L from hsame (by rw [turnS, if_neg]; rintro ⟨f1, f2, f3⟩; omega))
                      go_wp2_with (fail)
                      refine (cL.out _).mono ?_
                      rintro e w' ⟨rfl, rfl⟩
                      go_wp2_with (fail)
                      exact ⟨⟨q + 1, by omega, by omega, by go_num, by rw [hq.out]; exact hrow, hbxr, hB⟩, by simp [RowKit.intOf]; omega⟩
                  · 
                    have hq := hid (show turnL (G.take (q + 1)) L = turnL (G.take q) L from hsame (by rw [turnS, if_neg]; rintro ⟨f1, f2, f3⟩; omega))
                    go_wp2_with (fail)
                    refine (cL.out _).mono ?_
                    rintro e w' ⟨rfl, rfl⟩
                    go_wp2_with (fail)
                    exact ⟨⟨q + 1, by omega, by omega, by go_num, by rw [hq.out]; exact hrow, hbxr, hB⟩, by simp [RowKit.intOf]; omega⟩
              · obtain rfl : q = G.length := by omega
                have hTL : turnL (G.take G.length) L = turnL G L := by rw [List.take_length]
                rw [hTL] at hrow
                have hBr := k4.trans (hB.mono (by omega))
                have s1r := (Kept.of_below hBr 0).sl s1
                have hBw := b2.trans (hBr.mono hz0)
                have hTl : (turnL G L).length = L.length := turnL_len _ _
                have hTs : Sl wr 1 encI (.slice p3 L.length c3) (turnL G L) := by
                  have := sl_of_owns (enc := encI) (l := turnL G L) (e := 3) (base := w2.heap.size + 1) (k := 1) (v := .slice p3 L.length c3) (fun _ _ => rfl) (by rw [hTl]; exact hrow)
                  exact this
                have hTo : ∀ x ∈ turnL G L, okv x := by
                  cases vd
                  · rw [(hfacts.out.1 rfl).2]; cases G <;> (intro x hx; cases hx)
                  · exact turnL_ok _ _ (hfacts.out.2 rfl).1
                have cT := hid (RText_any _ _ wr (by rw [hTl]; omega) hTs (fun x hx => by have := okv_rng (hTo x hx); omega))
                rw [show rtextOut (turnL G L) = #[.string ⟨(txt (turnL G L)).toArray⟩, .bool true] from if_pos hTo] at cT
                obtain ⟨T, hT⟩ : ∃ T : ByteArray, (⟨(txt (turnL G L)).toArray⟩ : ByteArray) = T := ⟨_, rfl⟩
                rw [hT] at cT
                clear hTs hTo hrow
                go_wp2_with (fail)
                refine cT.out.mono ?_
                rintro e w5 ⟨rfl, b5⟩
                have hb5 := (b5.cell (p := ⟨bx, 1, none⟩) (Array.getElem?_eq_some_iff.1 hbxr).1).trans hb1
                have B5 := hBw.trans (b5.mono hBw.size)
                have s15 := (Kept.of_below b5 0).sl s1r
                clear cT s1r hb0 hb1
                cases vd
                · have hNL0 : NL = [] := (hfacts.out.1 rfl).1
                  subst hNL0
                  go_wp2_with (fail)
                  refine (cW.out _ B5).mono ?_
                  rintro e w6 ⟨rfl, b6⟩
                  go_wp2
                  go_ret
                  exact ⟨rfl, B5.trans (b6.mono B5.size)⟩
                · obtain ⟨-, hf2, hf3⟩ := hfacts.out.2 rfl
                  have hTd : T.data.toList = txt (turnL G L) := by rw [← hT]
                  have hTz : T.size ≤ 1000 := by rw [← hT]; show (txt (turnL G L)).length ≤ 1000; omega
                  have cA := hid (cN2.out w5 B5 T hTz (by rw [hTd]; exact hf2))
                  have cB := hid (fun W hB => cP2.out W hB T hTz (by rw [hTd, hf2]; exact hPL.out))
                  clear hT hTd hf2 hf3 cN2 cP2
                  go_wp2_with (fail)
                  refine cA.out.mono ?_
                  rintro e w6 ⟨v6, rfl, s6, k6, B6⟩
                  go_wp2_with (fail)
                  refine (IntsSame _ _ _ _ s6 ((Kept.of_below k6 0).sl s15)).mono ?_
                  rintro e w7 ⟨rfl, d7⟩
                  have B7 := below_drew B6 d7
                  go_wp2_with (fail)
                  refine (cB.out _ B7).mono ?_
                  rintro e w8 ⟨v8, rfl, s8, k8, B8⟩
                  have s28 := (Kept.of_below k8 0).sl ((Kept.of_drew (B := 0) d7).sl ((Kept.of_below k6 0).sl ((Kept.of_below b5 0).sl ((Kept.of_below hBr 0).sl s2))))
                  go_wp2_with (fail)
                  refine (IntsSame _ _ _ _ s8 s28).mono ?_
                  rintro e w9 ⟨rfl, d9⟩
                  have B9 := below_drew B8 d9
                  go_wp2_with (fail)
                  refine (cW.out _ B9).mono ?_
                  rintro e wA ⟨rfl, bA⟩
                  go_wp2
                  go_ret
                  exact ⟨rfl, B9.trans (bA.mono B9.size)⟩
            · obtain rfl : q = L.length := by omega
              have hTL : turnL (G.take L.length) L = turnL G L := turnL_past _ _ _ (Nat.le_refl _)
              rw [hTL] at hrow
              have hBr := k4.trans (hB.mono (by omega))
              have s1r := (Kept.of_below hBr 0).sl s1
              have hBw := b2.trans (hBr.mono hz0)
              have hTl : (turnL G L).length = L.length := turnL_len _ _
              have hTs : Sl wr 1 encI (.slice p3 L.length c3) (turnL G L) := by
                have := sl_of_owns (enc := encI) (l := turnL G L) (e := 3) (base := w2.heap.size + 1) (k := 1) (v := .slice p3 L.length c3) (fun _ _ => rfl) (by rw [hTl]; exact hrow)
                exact this
              have hTo : ∀ x ∈ turnL G L, okv x := by
                cases vd
                · rw [(hfacts.out.1 rfl).2]; cases G <;> (intro x hx; cases hx)
                · exact turnL_ok _ _ (hfacts.out.2 rfl).1
              have cT := hid (RText_any _ _ wr (by rw [hTl]; omega) hTs (fun x hx => by have := okv_rng (hTo x hx); omega))
              rw [show rtextOut (turnL G L) = #[.string ⟨(txt (turnL G L)).toArray⟩, .bool true] from if_pos hTo] at cT
              obtain ⟨T, hT⟩ : ∃ T : ByteArray, (⟨(txt (turnL G L)).toArray⟩ : ByteArray) = T := ⟨_, rfl⟩
              rw [hT] at cT
              clear hTs hTo hrow
              go_wp2_with (fail)
              refine cT.out.mono ?_
              rintro e w5 ⟨rfl, b5⟩
              have hb5 := (b5.cell (p := ⟨bx, 1, none⟩) (Array.getElem?_eq_some_iff.1 hbxr).1).trans hb1
              have B5 := hBw.trans (b5.mono hBw.size)
              have s15 := (Kept.of_below b5 0).sl s1r
              clear cT s1r hb0 hb1
              cases vd
              · have hNL0 : NL = [] := (hfacts.out.1 rfl).1
                subst hNL0
                go_wp2_with (fail)
                refine (cW.out _ B5).mono ?_
                rintro e w6 ⟨rfl, b6⟩
                go_wp2
                go_ret
                exact ⟨rfl, B5.trans (b6.mono B5.size)⟩
              · obtain ⟨-, hf2, hf3⟩ := hfacts.out.2 rfl
                have hTd : T.data.toList = txt (turnL G L) := by rw [← hT]
                have hTz : T.size ≤ 1000 := by rw [← hT]; show (txt (turnL G L)).length ≤ 1000; omega
                have cA := hid (cN2.out w5 B5 T hTz (by rw [hTd]; exact hf2))
                have cB := hid (fun W hB => cP2.out W hB T hTz (by rw [hTd, hf2]; exact hPL.out))
                clear hT hTd hf2 hf3 cN2 cP2
                go_wp2_with (fail)
                refine cA.out.mono ?_
                rintro e w6 ⟨v6, rfl, s6, k6, B6⟩
                go_wp2_with (fail)
                refine (IntsSame _ _ _ _ s6 ((Kept.of_below k6 0).sl s15)).mono ?_
                rintro e w7 ⟨rfl, d7⟩
                have B7 := below_drew B6 d7
                go_wp2_with (fail)
                refine (cB.out _ B7).mono ?_
                rintro e w8 ⟨v8, rfl, s8, k8, B8⟩
                have s28 := (Kept.of_below k8 0).sl ((Kept.of_drew (B := 0) d7).sl ((Kept.of_below k6 0).sl ((Kept.of_below b5 0).sl ((Kept.of_below hBr 0).sl s2))))
                go_wp2_with (fail)
                refine (IntsSame _ _ _ _ s8 s28).mono ?_
                rintro e w9 ⟨rfl, d9⟩
                have B9 := below_drew B8 d9
                go_wp2_with (fail)
                refine (cW.out _ B9).mono ?_
                rintro e wA ⟨rfl, bA⟩
                go_wp2
                go_ret
                exact ⟨rfl, B9.trans (bA.mono B9.size)⟩
    · go_enter Tryd.func6, Tryd.ntmps6
      go_wp2_with (fail)
      refine (cW.out _ (Below.refl _ _)).mono ?_
      rintro e w7 ⟨rfl, b2⟩
      go_wp2
      go_ret
      exact ⟨rfl, b2⟩
  · go_enter Tryd.func6, Tryd.ntmps6
    go_wp2_with (fail)
    refine (cW.out _ (Below.refl _ _)).mono ?_
    rintro e w7 ⟨rfl, b2⟩
    go_wp2
    go_ret
    exact ⟨rfl, b2⟩
end Go.Proofs.YtgakaomcdpgnkaaDoor
