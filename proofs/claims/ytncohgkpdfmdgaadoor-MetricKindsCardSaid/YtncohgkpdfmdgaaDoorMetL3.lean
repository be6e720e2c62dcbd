/- The walk of MetricKinds (by gen_metl3.py). -/
import Derived.Test.YtncohgkpdfmdgaaDoorMetB
import Derived.Deep.DeepCutAuto
import Derived.Deep.CutBlock
namespace Go.Proofs.YtncohgkpdfmdgaaDoor
open Go.RowKit Go.Shelf

theorem txt_single (v : Int) : txt [v] = Lib.encodeRune v := by simp [txt]
theorem one_byte {k : Int} (h0 : 0 ≤ k) (h1 : k < 127) : ∃ (T : ByteArray) (c : UInt8), T = ⟨#[c]⟩ ∧ (c.toNat : Int) = k ∧ strOfNums [k] = T ∧ sgn T.data.toList = [k] ∧ sgn (T ++ T).data.toList = [k, k] := by
  have ho : okv k := ⟨h0, by omega, by omega⟩
  have he : Lib.encodeRune k = [k.toNat.toUInt8] := by
    unfold Lib.encodeRune
    rw [Lib.encodeRuneZ_one h0 (by omega)]; rfl
  have hb := b8 h0 (by omega : k ≤ 255)
  refine ⟨⟨#[k.toNat.toUInt8]⟩, _, rfl, by rw [hb]; omega, rfl, sgn_of (fun x hx => by rw [List.mem_singleton.1 hx]; exact ho) (by rw [txt_single, he]), sgn_of (fun x hx => ?_) ?_⟩
  · have : x = k := by simpa using hx
    rw [this]; exact ho
  · rw [show txt [k, k] = Lib.encodeRune k ++ Lib.encodeRune k by simp [txt], he]; rfl

theorem memb_no {l : List UInt8} {k : Int} (h : ∀ b ∈ l, ¬ (b.toNat : Int) = k) : memb l k = false := by
  unfold memb
  rw [List.any_eq_false]
  intro b hb
  simpa using h b hb
theorem eql_one {T : ByteArray} {c : UInt8} {k : Int} (hT : T = ⟨#[c]⟩) (hc : (c.toNat : Int) = k) (d : UInt8) (n : Int) (hn : (d.toNat : Int) = n) : (T.toList == [d]) = decide (k = n) := by
  rw [hT, Lib.toList_data]
  show ([c] == [d]) = _
  rw [Bool.eq_iff_iff, beq_iff_eq, decide_eq_true_iff, ← hc, ← hn]
  constructor
  · intro h; rw [List.cons.inj h |>.1]
  · intro h
    have : c = d := UInt8.toNat_inj.1 (by omega)
    rw [this]

theorem width_groups (k : Int) : width k = if (decide (k = 105) || decide (k = 106) || decide (k = 108) || decide (k = 33) || decide (k = 124) || decide (k = 46) || decide (k = 44) || decide (k = 58) || decide (k = 59) || decide (k = 39)) then 3 else if (decide (k = 102) || decide (k = 116) || decide (k = 114) || decide (k = 40) || decide (k = 41) || decide (k = 91) || decide (k = 93) || decide (k = 45) || decide (k = 34)) then 4 else if (decide (k = 109) || decide (k = 119) || decide (k = 77) || decide (k = 87) || decide (k = 64)) then 9 else if 65 ≤ k ∧ k ≤ 90 then 7 else if 33 ≤ k ∧ k ≤ 126 then 6 else 10 := by
  have h1 : (decide (k = 105) || decide (k = 106) || decide (k = 108) || decide (k = 33) || decide (k = 124) || decide (k = 46) || decide (k = 44) || decide (k = 58) || decide (k = 59) || decide (k = 39)) = memb narrowL k := by
    rw [Bool.eq_iff_iff]; simp [memb, narrowL]; constructor <;> intro h <;> omega
  have h2 : (decide (k = 102) || decide (k = 116) || decide (k = 114) || decide (k = 40) || decide (k = 41) || decide (k = 91) || decide (k = 93) || decide (k = 45) || decide (k = 34)) = memb slimL k := by
    rw [Bool.eq_iff_iff]; simp [memb, slimL]; constructor <;> intro h <;> omega
  have h3 : (decide (k = 109) || decide (k = 119) || decide (k = 77) || decide (k = 87) || decide (k = 64)) = memb wideL k := by
    rw [Bool.eq_iff_iff]; simp [memb, wideL]; constructor <;> intro h <;> omega
  rw [h1, h2, h3]; rfl

set_option maxRecDepth 100000 in
set_option maxHeartbeats 8000000 in
theorem MetricKinds_any (v : Int) (w : World) (hT : Tabs w) (z1 : 0 ≤ v) (z2 : v ≤ 255) :
    Calls Tryd.prog 5 #[.int .u8 v] w fun e w' => e = .returned (.bool true) ∧ Below w.heap.size w w' := by
  have k0 : 0 ≤ v % 127 := by omega
  have k1 : v % 127 < 127 := by omega
  obtain ⟨T, c, hTc, hck, hstr, hs1, hs2⟩ := one_byte k0 k1
  have hN := width_groups (v % 127)
  have hTs : T.size = 1 := by rw [hTc]; rfl
  have c1 := Sign_any (v % 127) w (by omega) (by omega)
  have cW := hid (fun W (hB : Below w.heap.size w W) => wakes10 W (hT.below hB))
  have cM := hid (fun W (hB : Below w.heap.size w W) => MText_any T W (by omega) (hT.below hB))
  have cD := hid (fun W (hB : Below w.heap.size w W) => MText_any (T ++ T) W (by rw [ByteArray.size_append]; omega) (hT.below hB))
  rw [hs1, show sumw [v % 127] = width (v % 127) by simp [sumw]] at cM
  rw [hs2, show sumw [v % 127, v % 127] = 2 * width (v % 127) by simp [sumw]; omega] at cD
  have e105 := hid (eql_one hTc hck 105 105 rfl)
  have e106 := hid (eql_one hTc hck 106 106 rfl)
  have e108 := hid (eql_one hTc hck 108 108 rfl)
  have e33 := hid (eql_one hTc hck 33 33 rfl)
  have e124 := hid (eql_one hTc hck 124 124 rfl)
  have e46 := hid (eql_one hTc hck 46 46 rfl)
  have e44 := hid (eql_one hTc hck 44 44 rfl)
  have e58 := hid (eql_one hTc hck 58 58 rfl)
  have e59 := hid (eql_one hTc hck 59 59 rfl)
  have e39 := hid (eql_one hTc hck 39 39 rfl)
  have e102 := hid (eql_one hTc hck 102 102 rfl)
  have e116 := hid (eql_one hTc hck 116 116 rfl)
  have e114 := hid (eql_one hTc hck 114 114 rfl)
  have e40 := hid (eql_one hTc hck 40 40 rfl)
  have e41 := hid (eql_one hTc hck 41 41 rfl)
  have e91 := hid (eql_one hTc hck 91 91 rfl)
  have e93 := hid (eql_one hTc hck 93 93 rfl)
  have e45 := hid (eql_one hTc hck 45 45 rfl)
  have e34 := hid (eql_one hTc hck 34 34 rfl)
  have e109 := hid (eql_one hTc hck 109 109 rfl)
  have e119 := hid (eql_one hTc hck 119 119 rfl)
  have e77 := hid (eql_one hTc hck 77 77 rfl)
  have e87 := hid (eql_one hTc hck 87 87 rfl)
  have e64 := hid (eql_one hTc hck 64 64 rfl)
  have hwb := width_bd (v % 127)
  have hB0 := (Below.refl w.heap.size w).alloc (Nat.le_refl _) (.cells #[.int .u8 (v % 127)] 5)
  have hcv : (convert 30 9 (.slice (some ⟨w.heap.size, 0, none⟩) 1 1)).run Tryd.prog (w.alloc (.cells #[.int .u8 (v % 127)] 5)) = .ok (.string T) (w.alloc (.cells #[.int .u8 (v % 127)] 5)) := by
    have := conv_sl (sl_of_block (l := [v % 127]) (enc := encB) (cap := 1) (World.alloc_heap_new w (.cells #[.int .u8 (v % 127)] 5)) rfl (fun _ _ => rfl) (Nat.le_refl _) (by decide))
    rw [hstr] at this
    exact this
  go_enter Tryd.func5, Tryd.ntmps5
  go_upto_region 2 with (fail)
  generalize v % 127 = k at *
  generalize width k = N at *
  obtain ⟨b1, hb1⟩ : ∃ b : Bool, (decide (k = 105) || decide (k = 106) || decide (k = 108) || decide (k = 33) || decide (k = 124) || decide (k = 46) || decide (k = 44) || decide (k = 58) || decide (k = 59) || decide (k = 39)) = b := ⟨_, rfl⟩
  obtain ⟨b2, hb2⟩ : ∃ b : Bool, (decide (k = 102) || decide (k = 116) || decide (k = 114) || decide (k = 40) || decide (k = 41) || decide (k = 91) || decide (k = 93) || decide (k = 45) || decide (k = 34)) = b := ⟨_, rfl⟩
  obtain ⟨b3, hb3⟩ : ∃ b : Bool, (decide (k = 109) || decide (k = 119) || decide (k = 77) || decide (k = 87) || decide (k = 64)) = b := ⟨_, rfl⟩
  rw [hb1, hb2, hb3] at hN
  replace hb1 := hid hb1
  replace hb2 := hid hb2
  replace hb3 := hid hb3
  replace hN := hid hN
  have hTi : (T.size : Int) ≤ 1 := by omega
  clear hs1 hs2 hTc hck hstr hTs hT
  replace hcv := hid hcv
  go_wp2_with (fail)
  refine c1.mono ?_
  rintro e w1 ⟨rfl, rfl⟩
  replace hcv := Hid.out hcv
  go_wp2_with (fail)
  refine (Hid.out cM _ hB0).mono ?_
  rintro e w2 ⟨rfl, b2⟩
  have B2 := hB0.trans (b2.mono hB0.size)
  clear b2 hB0 hcv
  go_wp2_with (fail)
  refine (Hid.out cD _ B2).mono ?_
  rintro e w3 ⟨rfl, b3⟩
  have B3 := B2.trans (b3.mono B2.size)
  clear b3 B2
  clear cM cD c1
  go_upto_block 0 with (fail)
  go_step
  go_step
  go_cut [30] (fun a wx => a = .bool b1 ∧ wx = w3)
  case first =>
    (replace e105 := Hid.out e105; replace e106 := Hid.out e106; replace e108 := Hid.out e108; replace e33 := Hid.out e33; replace e124 := Hid.out e124; replace e46 := Hid.out e46; replace e44 := Hid.out e44; replace e58 := Hid.out e58; replace e59 := Hid.out e59; replace e39 := Hid.out e39)
    go_wp2
    all_goals
      go_meet
      refine ⟨congrArg Value.bool ?_, rfl⟩
      rw [← Hid.out hb1]
      simp [*]
  case rest =>
    obtain ⟨rfl, rfl⟩ := hcut
    cases b1 with
    | true =>
      have hN2 := Hid.out hN
      simp only [if_true, if_false, Bool.false_eq_true] at hN2
      subst hN2
      go_wp2_with (fail)
      refine (Hid.out cW _ B3).mono ?_
      rintro e w4 ⟨rfl, b4⟩
      have B4 := B3.trans (b4.mono B3.size)
      go_wp2
      go_ret
      exact ⟨rfl, B4⟩
    | false =>
      go_step
      go_step
      go_step
      go_cut [46] (fun a wx => a = .bool b2 ∧ wx = wc)
      case first =>
        (replace e102 := Hid.out e102; replace e116 := Hid.out e116; replace e114 := Hid.out e114; replace e40 := Hid.out e40; replace e41 := Hid.out e41; replace e91 := Hid.out e91; replace e93 := Hid.out e93; replace e45 := Hid.out e45; replace e34 := Hid.out e34)
        go_wp2
        all_goals
          go_meet
          refine ⟨congrArg Value.bool ?_, rfl⟩
          rw [← Hid.out hb2]
          simp [*]
      case rest =>
        obtain ⟨rfl, rfl⟩ := hcut
        cases b2 with
        | true =>
          have hN2 := Hid.out hN
          simp only [if_true, if_false, Bool.false_eq_true] at hN2
          subst hN2
          go_wp2_with (fail)
          refine (Hid.out cW _ B3).mono ?_
          rintro e w4 ⟨rfl, b4⟩
          have B4 := B3.trans (b4.mono B3.size)
          go_wp2
          go_ret
          exact ⟨rfl, B4⟩
        | false =>
          go_step
          go_step
          go_step
          go_cut [61] (fun a wx => a = .bool b3 ∧ wx = wc)
          case first =>
            (replace e109 := Hid.out e109; replace e119 := Hid.out e119; replace e77 := Hid.out e77; replace e87 := Hid.out e87; replace e64 := Hid.out e64)
            go_wp2
            all_goals
              go_meet
              refine ⟨congrArg Value.bool ?_, rfl⟩
              rw [← Hid.out hb3]
              simp [*]
          case rest =>
            obtain ⟨rfl, rfl⟩ := hcut
            cases b3 with
            | true =>
              have hN2 := Hid.out hN
              simp only [if_true, if_false, Bool.false_eq_true] at hN2
              subst hN2
              go_wp2_with (fail)
              refine (Hid.out cW _ B3).mono ?_
              rintro e w4 ⟨rfl, b4⟩
              have B4 := B3.trans (b4.mono B3.size)
              go_wp2
              go_ret
              exact ⟨rfl, B4⟩
            | false =>
              have hN2 := Hid.out hN
              simp only [if_false, Bool.false_eq_true] at hN2
              have hcs : (k ≤ 32 ∧ k < 65 ∧ N = 10) ∨ (¬ k ≤ 32 ∧ k < 65 ∧ N = 6) ∨ (¬ k ≤ 32 ∧ 65 ≤ k ∧ k ≤ 90 ∧ N = 7) ∨ (¬ k ≤ 32 ∧ 65 ≤ k ∧ 90 < k ∧ N = 6) := by
                by_cases q1 : k ≤ 32
                · rw [if_neg (by omega), if_neg (by omega)] at hN2; omega
                · by_cases q2 : 65 ≤ k ∧ k ≤ 90
                  · rw [if_pos q2] at hN2; omega
                  · rw [if_neg q2, if_pos (by omega)] at hN2; omega
              clear hN2
              rcases hcs with ⟨p1, p2, rfl⟩ | ⟨p1, p2, rfl⟩ | ⟨p1, p2, p3, rfl⟩ | ⟨p1, p2, p3, rfl⟩
              all_goals
                go_wp2_with (fail)
                refine (Hid.out cW _ B3).mono ?_
                rintro e w4 ⟨rfl, b4⟩
                have B4 := B3.trans (b4.mono B3.size)
                go_wp2
                go_ret
                exact ⟨rfl, B4⟩
end Go.Proofs.YtncohgkpdfmdgaaDoor
