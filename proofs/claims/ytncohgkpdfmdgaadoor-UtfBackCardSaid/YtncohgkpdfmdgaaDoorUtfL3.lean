/- The walk of UtfBack (by gen_utfl3.py). -/
import Derived.Test.YtncohgkpdfmdgaaDoorUtfS
namespace Go.Proofs.YtncohgkpdfmdgaaDoor
open Go.RowKit Go.Shelf

set_option maxRecDepth 100000 in
set_option maxHeartbeats 4000000 in
theorem UtfBack_any (s u : ByteArray) (v : Value) (l : List Int) (w : World) (hT : Tabs w) (hl : Sl w 1 encI v l) (hr : ∀ x ∈ l, -9223372036854775808 ≤ x ∧ x ≤ 9223372036854775807) :
    Calls Tryd.prog 7 #[.string s, .string u, v] w fun e w' => e = .returned (.bool true) ∧ Below w.heap.size w w' := by
  obtain ⟨p, cap, rfl, hmx⟩ := hl.shape
  obtain ⟨i0, hi, hz0, hz1, hz2⟩ := info_parts Tryd.infoI
  have Hi := hid (And.intro hi (And.intro hz0 (And.intro hz1 hz2)))
  clear hi hz0 hz1 hz2
  by_cases h0 : s.size ≤ 1000 ∧ u.size ≤ 1000 ∧ l.length ≤ 500
  · obtain ⟨h1, h2, h3⟩ := h0
    have k1 : (s.size : Int) ≤ 1000 := by omega
    have k2 : (u.size : Int) ≤ 1000 := by omega
    have k3 : (l.length : Int) ≤ 500 := by omega
    have cSs := hid (fun W (hB : Below w.heap.size w W) => Signs_any s W (by omega) (hT.below hB))
    have cSu := hid (fun W (hB : Below w.heap.size w W) => Signs_any u W (by omega) (hT.below hB))
    have cVs := hid (fun W (hB : Below w.heap.size w W) => Valid_any s W (by omega) (hT.below hB))
    have cVu := hid (fun W (hB : Below w.heap.size w W) => Valid_any u W (by omega) (hT.below hB))
    have cW := hid (fun W (hB : Below w.heap.size w W) => wakes9 W (hT.below hB))
    have cL := hid (fun W (hB : Below w.heap.size w W) => (Kept.of_below hB 0).sl hl)
    have B0 := Below.refl w.heap.size w
    have cVc := hid (fun W (hB : Below w.heap.size w W) => Valid_any (s ++ u) W (by rw [ByteArray.size_append]; omega) (hT.below hB))
    have cSc := hid (fun W (hB : Below w.heap.size w W) => Signs_any (s ++ u) W (by rw [ByteArray.size_append]; omega) (hT.below hB))
    have hc0 : (s ++ u).data.toList = s.data.toList ++ u.data.toList := by simp [ByteArray.data_append]
    rw [hc0] at cVc cSc
    have hla2 := hid (sgn_len s)
    have hlb2 := hid (sgn_len u)
    have hla := hid (show (sgn s.data.toList).length ≤ 1000000 by have := sgn_len s; omega)
    have hra := hid (sgn_rng s.data.toList)
    replace hr := hid hr
    have hend : (∃ T : ByteArray, textOut l = #[.string T, .int .i64 0] ∧ Lib.validD T.data.toList = true ∧ sgn T.data.toList = l ∧ T.size ≤ 1000000) ∨ textOut l = #[.string ⟨#[]⟩, .int .i64 11] := by
      by_cases h : ∀ x ∈ l, okv x
      · refine .inl ⟨_, if_pos h, (valid_iff _).2 ⟨l, h, by simp⟩, sgn_of h (by simp), ?_⟩
        have := txt_le h
        show (txt l).toArray.size ≤ _
        simp; omega
      · exact .inr (if_neg h)
    have ends := hid hend
    clear hend hmx h1 h2 hc0
    cases hv : Lib.validD s.data.toList with
    | false =>
      rw [sgn_no hv] at cSs
      rw [hv] at cVs
      clear hv hla hra cVc cSc cVu hla2 hlb2
      go_enter Tryd.func7, Tryd.ntmps7
      go_wp2_with (fail)
      refine (Hid.out cSs _ B0).mono ?_
      rintro e w1 ⟨va, rfl, ha, b1⟩
      have B1 := B0.trans (b1.mono B0.size)
      clear b1 B0
      obtain ⟨pa, ca, rfl, -⟩ := ha.shape
      replace ha := hid ha
      go_wp2_with (fail)
      refine (Hid.out cSu _ B1).mono ?_
      rintro e w2 ⟨vb, rfl, hb, b2⟩
      have B2 := B1.trans (b2.mono B1.size)
      replace ha := hid ((Kept.of_below b2 0).sl (Hid.out ha))
      clear b2 B1
      obtain ⟨pb, cb, rfl, -⟩ := hb.shape
      replace hb := hid hb
      go_wp2_with (fail)
      refine (Hid.out cVs _ B2).mono ?_
      rintro e w3 ⟨rfl, b3⟩
      have B3 := B2.trans (b3.mono B2.size)
      replace ha := hid ((Kept.of_below b3 0).sl (Hid.out ha))
      replace hb := hid ((Kept.of_below b3 0).sl (Hid.out hb))
      clear b3 B2
      go_wp2_with (fail)
      refine (UText_any _ l _ (by omega) (Hid.out cL _ B3) (Hid.out hr)).mono ?_
      rintro e wt ⟨rfl, bt⟩
      have BT := B3.trans (bt.mono B3.size)
      clear bt B3
      rcases Hid.out ends with ⟨T, t1, t2, t3, t4⟩ | t1
      · have cVT := hid (fun W (hB : Below w.heap.size w W) => Valid_any T W (by omega) (hT.below hB))
        have cST := hid (fun W (hB : Below w.heap.size w W) => Signs_any T W (by omega) (hT.below hB))
        rw [t2] at cVT
        rw [t3] at cST
        replace t1 := hid t1
        replace hT := hid hT
        clear t2 t3 t4 ends hl
        rw [Hid.out t1]
        go_wp2_with (fail)
        refine (Hid.out cVT _ BT).mono ?_
        rintro e x1 ⟨rfl, b1⟩
        have BU := BT.trans (b1.mono BT.size)
        clear BT b1
        go_wp2_with (fail)
        refine (Hid.out cST _ BU).mono ?_
        rintro e x2 ⟨vt, rfl, ht, b2⟩
        have BV := BU.trans (b2.mono BU.size)
        clear BU b2
        go_wp2_with (fail)
        refine (Ints_eq _ _ _ _ _ ht (Hid.out cL _ BV) rfl).mono ?_
        rintro e x3 ⟨rfl, m, rfl⟩
        have BW := BV.drewN m
        clear BV ht
        go_wp2_with (fail)
        refine (Hid.out cW _ BW).mono ?_
        rintro e x4 ⟨rfl, b4⟩
        have BX := BW.trans (b4.mono BW.size)
        go_wp2
        go_ret
        exact ⟨rfl, BX⟩
      · replace t1 := hid t1
        replace hT := hid hT
        clear ends hl
        rw [Hid.out t1]
        go_wp2_with (fail)
        refine (Hid.out cW _ BT).mono ?_
        rintro e x4 ⟨rfl, b4⟩
        have BX := BT.trans (b4.mono BT.size)
        go_wp2
        go_ret
        exact ⟨rfl, BX⟩
    | true =>
      have hta := hid (text_sgn hv)
      rw [hv] at cVs
      have hvc := valid_cat hv u.data.toList
      rw [hvc] at cVc
      cases hu : Lib.validD u.data.toList with
      | false =>
        rw [hu] at cVc cVu
        clear hvc hu hv
        go_enter Tryd.func7, Tryd.ntmps7
        go_wp2_with (fail)
        refine (Hid.out cSs _ B0).mono ?_
        rintro e w1 ⟨va, rfl, ha, b1⟩
        have B1 := B0.trans (b1.mono B0.size)
        clear b1 B0
        obtain ⟨pa, ca, rfl, -⟩ := ha.shape
        replace ha := hid ha
        go_wp2_with (fail)
        refine (Hid.out cSu _ B1).mono ?_
        rintro e w2 ⟨vb, rfl, hb, b2⟩
        have B2 := B1.trans (b2.mono B1.size)
        replace ha := hid ((Kept.of_below b2 0).sl (Hid.out ha))
        clear b2 B1
        obtain ⟨pb, cb, rfl, -⟩ := hb.shape
        replace hb := hid hb
        go_wp2_with (fail)
        refine (Hid.out cVs _ B2).mono ?_
        rintro e w3 ⟨rfl, b3⟩
        have B3 := B2.trans (b3.mono B2.size)
        replace ha := hid ((Kept.of_below b3 0).sl (Hid.out ha))
        replace hb := hid ((Kept.of_below b3 0).sl (Hid.out hb))
        clear b3 B2
        go_wp2_with (fail)
        refine (UText_any _ _ _ (Hid.out hla) (Hid.out ha) (Hid.out hra)).mono ?_
        rintro e w4 ⟨rfl, b4⟩
        rw [Hid.out hta]
        have B4 := B3.trans (b4.mono B3.size)
        replace ha := hid ((Kept.of_below b4 0).sl (Hid.out ha))
        replace hb := hid ((Kept.of_below b4 0).sl (Hid.out hb))
        clear b4 B3
        go_wp2_with (fail)
        refine (Hid.out cVc _ B4).mono ?_
        rintro e w5 ⟨rfl, b5⟩
        have B5 := B4.trans (b5.mono B4.size)
        replace ha := hid ((Kept.of_below b5 0).sl (Hid.out ha))
        replace hb := hid ((Kept.of_below b5 0).sl (Hid.out hb))
        clear b5 B4
        go_wp2_with (fail)
        refine (Hid.out cVu _ B5).mono ?_
        rintro e w6 ⟨rfl, b6⟩
        have B6 := B5.trans (b6.mono B5.size)
        replace ha := hid ((Kept.of_below b6 0).sl (Hid.out ha))
        replace hb := hid ((Kept.of_below b6 0).sl (Hid.out hb))
        clear b6 B5
        go_wp2_with (fail)
        refine (Hid.out cVu _ B6).mono ?_
        rintro e w7 ⟨rfl, b7⟩
        have B7 := B6.trans (b7.mono B6.size)
        replace ha := hid ((Kept.of_below b7 0).sl (Hid.out ha))
        replace hb := hid ((Kept.of_below b7 0).sl (Hid.out hb))
        clear b7 B6
        go_wp2_with (fail)
        refine (UText_any _ l _ (by omega) (Hid.out cL _ B7) (Hid.out hr)).mono ?_
        rintro e wt ⟨rfl, bt⟩
        have BT := B7.trans (bt.mono B7.size)
        clear bt B7
        rcases Hid.out ends with ⟨T, t1, t2, t3, t4⟩ | t1
        · have cVT := hid (fun W (hB : Below w.heap.size w W) => Valid_any T W (by omega) (hT.below hB))
          have cST := hid (fun W (hB : Below w.heap.size w W) => Signs_any T W (by omega) (hT.below hB))
          rw [t2] at cVT
          rw [t3] at cST
          replace t1 := hid t1
          replace hT := hid hT
          clear t2 t3 t4 ends hl
          rw [Hid.out t1]
          go_wp2_with (fail)
          refine (Hid.out cVT _ BT).mono ?_
          rintro e x1 ⟨rfl, b1⟩
          have BU := BT.trans (b1.mono BT.size)
          clear BT b1
          go_wp2_with (fail)
          refine (Hid.out cST _ BU).mono ?_
          rintro e x2 ⟨vt, rfl, ht, b2⟩
          have BV := BU.trans (b2.mono BU.size)
          clear BU b2
          go_wp2_with (fail)
          refine (Ints_eq _ _ _ _ _ ht (Hid.out cL _ BV) rfl).mono ?_
          rintro e x3 ⟨rfl, m, rfl⟩
          have BW := BV.drewN m
          clear BV ht
          go_wp2_with (fail)
          refine (Hid.out cW _ BW).mono ?_
          rintro e x4 ⟨rfl, b4⟩
          have BX := BW.trans (b4.mono BW.size)
          go_wp2
          go_ret
          exact ⟨rfl, BX⟩
        · replace t1 := hid t1
          replace hT := hid hT
          clear ends hl
          rw [Hid.out t1]
          go_wp2_with (fail)
          refine (Hid.out cW _ BT).mono ?_
          rintro e x4 ⟨rfl, b4⟩
          have BX := BT.trans (b4.mono BT.size)
          go_wp2
          go_ret
          exact ⟨rfl, BX⟩
      | true =>
        have hcc := hid (sgn_cat hv hu)
        rw [hu] at cVc cVu
        clear hvc hu hv
        go_enter Tryd.func7, Tryd.ntmps7
        go_wp2_with (fail)
        refine (Hid.out cSs _ B0).mono ?_
        rintro e w1 ⟨va, rfl, ha, b1⟩
        have B1 := B0.trans (b1.mono B0.size)
        clear b1 B0
        obtain ⟨pa, ca, rfl, -⟩ := ha.shape
        replace ha := hid ha
        go_wp2_with (fail)
        refine (Hid.out cSu _ B1).mono ?_
        rintro e w2 ⟨vb, rfl, hb, b2⟩
        have B2 := B1.trans (b2.mono B1.size)
        replace ha := hid ((Kept.of_below b2 0).sl (Hid.out ha))
        clear b2 B1
        obtain ⟨pb, cb, rfl, -⟩ := hb.shape
        replace hb := hid hb
        go_wp2_with (fail)
        refine (Hid.out cVs _ B2).mono ?_
        rintro e w3 ⟨rfl, b3⟩
        have B3 := B2.trans (b3.mono B2.size)
        replace ha := hid ((Kept.of_below b3 0).sl (Hid.out ha))
        replace hb := hid ((Kept.of_below b3 0).sl (Hid.out hb))
        clear b3 B2
        go_wp2_with (fail)
        refine (UText_any _ _ _ (Hid.out hla) (Hid.out ha) (Hid.out hra)).mono ?_
        rintro e w4 ⟨rfl, b4⟩
        rw [Hid.out hta]
        have B4 := B3.trans (b4.mono B3.size)
        replace ha := hid ((Kept.of_below b4 0).sl (Hid.out ha))
        replace hb := hid ((Kept.of_below b4 0).sl (Hid.out hb))
        clear b4 B3
        go_wp2_with (fail)
        refine (Hid.out cVc _ B4).mono ?_
        rintro e w5 ⟨rfl, b5⟩
        have B5 := B4.trans (b5.mono B4.size)
        replace ha := hid ((Kept.of_below b5 0).sl (Hid.out ha))
        replace hb := hid ((Kept.of_below b5 0).sl (Hid.out hb))
        clear b5 B4
        go_wp2_with (fail)
        refine (Hid.out cVu _ B5).mono ?_
        rintro e w6 ⟨rfl, b6⟩
        have B6 := B5.trans (b6.mono B5.size)
        replace ha := hid ((Kept.of_below b6 0).sl (Hid.out ha))
        replace hb := hid ((Kept.of_below b6 0).sl (Hid.out hb))
        clear b6 B5
        go_wp2_with (fail)
        refine (Hid.out cVu _ B6).mono ?_
        rintro e w7 ⟨rfl, b7⟩
        have B7 := B6.trans (b7.mono B6.size)
        replace ha := hid ((Kept.of_below b7 0).sl (Hid.out ha))
        replace hb := hid ((Kept.of_below b7 0).sl (Hid.out hb))
        clear b7 B6
        go_wp2_with (fail)
        refine (Hid.out cSc _ B7).mono ?_
        rintro e w8 ⟨vc, rfl, hc, b8⟩
        have B8 := B7.trans (b8.mono B7.size)
        replace ha := hid ((Kept.of_below b8 0).sl (Hid.out ha))
        replace hb := hid ((Kept.of_below b8 0).sl (Hid.out hb))
        replace hc := hid hc
        clear b8 B7
        have o1 := hid (owns_empty w8 w8.heap.size 3 1 (Nat.le_refl _))
        have d1 : Below w8.heap.size w8 (w8.alloc (.cells #[] 3)) := (Below.refl _ w8).alloc (Nat.le_refl _) _
        have tok1 : True := trivial
        go_wp2_with (first
          | (at_builtin; have _t := tok1; go_must (refine wpList_append_sl_w rfl _ _ 26 rfl w8.heap.size 3 i0 _ 1 8 Tryd.underlying26 (Hid.out Hi).1 (Hid.out Hi).2.1 (Hid.out Hi).2.2.1 (Hid.out Hi).2.2.2 rfl (by decide) _ _ _ rfl (Hid.out o1) encI _ (sgn s.data.toList) rfl ((Kept.of_below d1 0).sl (Hid.out ha)) (encI_enc _) (by have := Hid.out hla2; unfold maxLen; omega) (by have := Hid.out hla2; omega) (by simp) ?_; intro v1 w9 ho1 hg1 hx1; clear hx1 tok1; replace ho1 := hid ho1; have d2 := d1.grown hg1 d1.size (fun j e => own_base (Hid.out o1) e); clear d1 hg1 o1))
          | (at_builtin; go_must (refine wpList_append_sl_w rfl _ _ 26 rfl w8.heap.size 3 i0 _ 1 8 Tryd.underlying26 (Hid.out Hi).1 (Hid.out Hi).2.1 (Hid.out Hi).2.2.1 (Hid.out Hi).2.2.2 rfl (by decide) _ _ _ rfl (Hid.out ho1) encI _ (sgn u.data.toList) rfl ((Kept.of_below d2 0).sl (Hid.out hb)) (encI_enc _) (by have := Hid.out hla2; have := Hid.out hlb2; unfold maxLen; omega) (by have := Hid.out hla2; have := Hid.out hlb2; omega) d2.size ?_; intro v2 w10 ho2 hg2 hx2; clear hx2; have d3 := d2.grown hg2 d2.size (fun j e => own_base (Hid.out ho1) e); clear d2 hg2 ho1; replace ho2 := hid ho2)))
        have hcat : Sl w10 1 encI v2 (sgn s.data.toList ++ sgn u.data.toList) := sl_of_owns (fun _ _ => rfl) (by have := Hid.out ho2; simpa using this)
        have BQ := B8.trans (d3.mono B8.size)
        replace hc := (Kept.of_below d3 0).sl (Hid.out hc)
        clear ho2 d3 B8
        refine (Ints_eq _ _ _ _ _ hc hcat (Hid.out hcc)).mono ?_
        rintro e w11 ⟨rfl, m1, rfl⟩
        have BR := BQ.drewN m1
        clear hc hcat BQ ha hb
        go_wp2_with (fail)
        refine (UText_any _ l _ (by omega) (Hid.out cL _ BR) (Hid.out hr)).mono ?_
        rintro e wt ⟨rfl, bt⟩
        have BT := BR.trans (bt.mono BR.size)
        clear bt BR
        rcases Hid.out ends with ⟨T, t1, t2, t3, t4⟩ | t1
        · have cVT := hid (fun W (hB : Below w.heap.size w W) => Valid_any T W (by omega) (hT.below hB))
          have cST := hid (fun W (hB : Below w.heap.size w W) => Signs_any T W (by omega) (hT.below hB))
          rw [t2] at cVT
          rw [t3] at cST
          replace t1 := hid t1
          replace hT := hid hT
          clear t2 t3 t4 ends hl
          rw [Hid.out t1]
          go_wp2_with (fail)
          refine (Hid.out cVT _ BT).mono ?_
          rintro e x1 ⟨rfl, b1⟩
          have BU := BT.trans (b1.mono BT.size)
          clear BT b1
          go_wp2_with (fail)
          refine (Hid.out cST _ BU).mono ?_
          rintro e x2 ⟨vt, rfl, ht, b2⟩
          have BV := BU.trans (b2.mono BU.size)
          clear BU b2
          go_wp2_with (fail)
          refine (Ints_eq _ _ _ _ _ ht (Hid.out cL _ BV) rfl).mono ?_
          rintro e x3 ⟨rfl, m, rfl⟩
          have BW := BV.drewN m
          clear BV ht
          go_wp2_with (fail)
          refine (Hid.out cW _ BW).mono ?_
          rintro e x4 ⟨rfl, b4⟩
          have BX := BW.trans (b4.mono BW.size)
          go_wp2
          go_ret
          exact ⟨rfl, BX⟩
        · replace t1 := hid t1
          replace hT := hid hT
          clear ends hl
          rw [Hid.out t1]
          go_wp2_with (fail)
          refine (Hid.out cW _ BT).mono ?_
          rintro e x4 ⟨rfl, b4⟩
          have BX := BT.trans (b4.mono BT.size)
          go_wp2
          go_ret
          exact ⟨rfl, BX⟩
  · have c5 := wakes9 w hT
    have h0' : 1000 < (s.size : Int) ∨ (s.size : Int) ≤ 1000 ∧ 1000 < (u.size : Int) ∨ (s.size : Int) ≤ 1000 ∧ (u.size : Int) ≤ 1000 ∧ 500 < (l.length : Int) := by omega
    clear hl hr hT h0
    rcases h0' with q1 | ⟨q1, q2⟩ | ⟨q1, q2, q3⟩
    all_goals
      go_enter Tryd.func7, Tryd.ntmps7
      go_wp2_with (fail)
      refine c5.mono ?_
      rintro e w' ⟨rfl, hB⟩
      go_wp2
      go_ret
      exact ⟨rfl, hB⟩
end Go.Proofs.YtncohgkpdfmdgaaDoor
