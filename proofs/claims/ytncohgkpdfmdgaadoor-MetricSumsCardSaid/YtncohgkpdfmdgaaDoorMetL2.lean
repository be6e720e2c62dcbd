/- The walk of MetricSums. -/
import Derived.Test.YtncohgkpdfmdgaaDoorMetB
import Derived.Deep.DeepCutAuto
namespace Go.Proofs.YtncohgkpdfmdgaaDoor
open Go.RowKit Go.Shelf

set_option maxRecDepth 100000 in
set_option maxHeartbeats 4000000 in
theorem MetricSums_any (s t : ByteArray) (v : Int) (w : World) (hT : Tabs w) (z1 : -9223372036854775808 ≤ v) (z2 : v ≤ 9223372036854775807) :
    Calls Tryd.prog 4 #[.string s, .string t, .int .i64 v] w fun e w' => e = .returned (.bool true) ∧ Below w.heap.size w w' := by
  have cW := hid (fun W (hB : Below w.heap.size w W) => wakes10 W (hT.below hB))
  by_cases h0 : s.size ≤ 1000 ∧ t.size ≤ 1000
  · obtain ⟨h1, h2⟩ := h0
    have k1 : (s.size : Int) ≤ 1000 := by omega
    have k2 : (t.size : Int) ≤ 1000 := by omega
    have c1 := Sign_any v w z1 z2
    have hkd := hid (width_kinds v)
    have cS := hid (fun W (hB : Below w.heap.size w W) => Signs_any s W (by omega) (hT.below hB))
    have cMs := hid (fun W (hB : Below w.heap.size w W) => MText_any s W (by omega) (hT.below hB))
    have cMt := hid (fun W (hB : Below w.heap.size w W) => MText_any t W (by omega) (hT.below hB))
    have cVs := hid (fun W (hB : Below w.heap.size w W) => Valid_any s W (by omega) (hT.below hB))
    have cVt := hid (fun W (hB : Below w.heap.size w W) => Valid_any t W (by omega) (hT.below hB))
    have cMc := hid (fun W (hB : Below w.heap.size w W) => MText_any (s ++ t) W (by rw [ByteArray.size_append]; omega) (hT.below hB))
    have hc0 : (s ++ t).data.toList = s.data.toList ++ t.data.toList := by simp [ByteArray.data_append]
    rw [hc0] at cMc
    have hlen := sgn_len s
    have hrng := hid (sgn_rng s.data.toList)
    have hsub := sumw_bd (sgn s.data.toList)
    have htb := sumw_bd (sgn t.data.toList)
    have htl := sgn_len t
    have hcat : Lib.validD s.data.toList = true → Lib.validD t.data.toList = true → sumw (sgn (s.data.toList ++ t.data.toList)) = sumw (sgn s.data.toList) + sumw (sgn t.data.toList) := fun a b => by rw [sgn_cat a b, sumw_append]
    replace hcat := hid hcat
    obtain ⟨l, hl⟩ : ∃ l, sgn s.data.toList = l := ⟨_, rfl⟩
    rw [hl] at cS cMs hlen hrng hsub hcat
    obtain ⟨N, hN⟩ : ∃ N, width v = N := ⟨_, rfl⟩
    rw [hN] at c1 hkd
    obtain ⟨d1, hd1⟩ : ∃ d, Lib.validD s.data.toList = d := ⟨_, rfl⟩
    obtain ⟨d2, hd2⟩ : ∃ d, Lib.validD t.data.toList = d := ⟨_, rfl⟩
    rw [hd1] at cVs hcat
    rw [hd2] at cVt hcat
    clear hl hN hd1 hd2 hc0 hT
    go_enter Tryd.func4, Tryd.ntmps4
    go_wp2_with (fail)
    refine c1.mono ?_
    rintro e w1 ⟨rfl, rfl⟩
    clear c1
    go_upto_region 4 with (fail)
    go_cut [43] (fun a wx => a = .bool false ∧ wx = w1)
    case first =>
      rcases Hid.out hkd with rfl | rfl | rfl | rfl | rfl | rfl
      all_goals
        go_wp2
        go_meet
        exact ⟨rfl, rfl⟩
    case rest =>
      obtain ⟨rfl, rfl⟩ := hcut
      go_wp2_with (fail)
      refine (Hid.out cS _ (Below.refl _ _)).mono ?_
      rintro e w2 ⟨vs, rfl, hsl, B2⟩
      obtain ⟨p, cap, rfl, hmx⟩ := hsl.shape
      replace hsl := hid hsl
      go_wp2_with (fail)
      go_loopw [9, 10] (fun a i wr => ∃ k : Nat, k ≤ l.length ∧ a = .int .i64 (sumw (l.take k)) ∧ i = .int .i64 k ∧ wr = w2) (fun _ i _ => l.length - (RowKit.intOf i).toNat)
      case atStart => exact ⟨0, Nat.zero_le _, rfl, rfl, rfl⟩
      case round =>
        obtain ⟨k, hk, rfl, rfl, rfl⟩ := hrel
        have hbd := sumw_bd (l.take k)
        by_cases hkl : k < l.length
        · have hne : l ≠ [] := by intro h; rw [h] at hkl; simp at hkl
          obtain ⟨b, o, cap', he, h1, h2, h3⟩ := (Hid.out hsl).open hne
          cases he
          have hc := rangeAt_one (h3 k l[k] (List.getElem?_eq_getElem hkl))
          simp only [Nat.mul_one] at hc
          have hnx := sumw_take hkl
          have hxr := (Hid.out hrng) l[k] (List.getElem_mem hkl)
          have hwb := width_bd l[k]
          have hcall := Sign_any l[k] wr hxr.1 hxr.2
          rw [List.length_take] at hbd
          generalize l[k] = x at *
          obtain ⟨S, hS⟩ : ∃ S, sumw (l.take k) = S := ⟨_, rfl⟩
          rw [hS] at hnx hbd ⊢
          have Hnx := hid hnx
          obtain ⟨X, hX⟩ : ∃ X, width x = X := ⟨_, rfl⟩
          rw [hX] at hcall hwb
          have HX := hid hX
          clear hnx hS hX h3 hxr
          go_wp2_with (fail)
          refine hcall.mono ?_
          rintro e w' ⟨rfl, rfl⟩
          go_wp2
          refine ⟨⟨k + 1, by omega, ?_, rfl, trivial⟩, ?_⟩
          · rw [Hid.out Hnx, Hid.out HX]
          · simp only [RowKit.intOf]; omega
        · obtain rfl : k = l.length := by omega
          rw [List.take_length] at *
          go_wp2_with (fail)
          refine (Hid.out cMs _ B2).mono ?_
          rintro e w3 ⟨rfl, b3⟩
          have B3 := B2.trans (b3.mono B2.size)
          clear b3 B2
          go_wp2_with (fail)
          refine (Hid.out cVs _ B3).mono ?_
          rintro e w4 ⟨rfl, b4⟩
          have B4 := B3.trans (b4.mono B3.size)
          clear b4 B3
          cases d1 with
          | false =>
            go_wp2_with (fail)
            refine (Hid.out cW _ B4).mono ?_
            rintro e w5 ⟨rfl, b5⟩
            have B5 := B4.trans (b5.mono B4.size)
            go_wp2
            go_ret
            exact ⟨rfl, B5⟩
          | true =>
            go_wp2_with (fail)
            refine (Hid.out cVt _ B4).mono ?_
            rintro e w5 ⟨rfl, b5⟩
            have B5 := B4.trans (b5.mono B4.size)
            clear b5 B4
            cases d2 with
            | false =>
              go_wp2_with (fail)
              refine (Hid.out cW _ B5).mono ?_
              rintro e w6 ⟨rfl, b6⟩
              have B6 := B5.trans (b6.mono B5.size)
              go_wp2
              go_ret
              exact ⟨rfl, B6⟩
            | true =>
              have hcat2 := Hid.out hcat (by first | rfl | trivial) (by first | rfl | trivial)
              rw [hcat2] at cMc
              clear hcat hcat2
              generalize sumw (sgn t.data.toList) = S2 at *
              generalize sumw l = S1 at *
              go_wp2_with (fail)
              refine (Hid.out cMc _ B5).mono ?_
              rintro e w6 ⟨rfl, b6⟩
              have B6 := B5.trans (b6.mono B5.size)
              clear b6 B5
              go_wp2_with (fail)
              refine (Hid.out cMt _ B6).mono ?_
              rintro e w7 ⟨rfl, b7⟩
              have B7 := B6.trans (b7.mono B6.size)
              clear b7 B6
              go_wp2_with (fail)
              refine (Hid.out cW _ B7).mono ?_
              rintro e w8 ⟨rfl, b8⟩
              have B8 := B7.trans (b8.mono B7.size)
              go_wp2
              go_ret
              exact ⟨rfl, B8⟩
  · have h0' : 1000 < (s.size : Int) ∨ (s.size : Int) ≤ 1000 ∧ 1000 < (t.size : Int) := by omega
    clear hT h0
    rcases h0' with q1 | ⟨q1, q2⟩
    all_goals
      go_enter Tryd.func4, Tryd.ntmps4
      go_wp2_with (fail)
      refine (Hid.out cW _ (Below.refl _ w)).mono ?_
      rintro e w1 ⟨rfl, hB⟩
      go_wp2
      go_ret
      exact ⟨rfl, hB⟩
end Go.Proofs.YtncohgkpdfmdgaaDoor
