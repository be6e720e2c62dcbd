/- The walk of UtfForms. -/
import Derived.Test.YtncohgkpdfmdgaaDoorUtfV
import Derived.Deep.DeepCutAuto
namespace Go.Proofs.YtncohgkpdfmdgaaDoor
open Go.RowKit Go.Shelf

/-- what one sign's text is -/
structure Form (v : Int) (n : Nat) (T : ByteArray) (c : UInt8) : Prop where
  size : T.size = n
  text : textOut [v] = #[.string T, .int .i64 0]
  valid : Lib.validD T.data.toList = true
  signs : sgn T.data.toList = [v]
  pos : 0 < T.size
  first : T[0]'pos = c
  low : (c.toNat < 128) ↔ n = 1
  cont : ∀ i (_ : 1 ≤ i) (h : i < T.size), 128 ≤ (T[i]'h).toNat ∧ (T[i]'h).toNat < 192
  head : ∀ i, 1 ≤ i → i < n → Lib.validD (T.extract 0 i).data.toList = false
  tail : ∀ i, 1 ≤ i → i < n → Lib.validD (T.extract i n).data.toList = false

theorem form_of {v : Int} (h : okv v) : ∃ n T c, Form v n T c ∧ (v < 128 ∧ n = 1 ∨ 128 ≤ v ∧ v < 2048 ∧ n = 2 ∨ 2048 ≤ v ∧ v < 65536 ∧ n = 3 ∨ 65536 ≤ v ∧ n = 4) := by
  obtain ⟨c, r, e, hc⟩ := enc_head h
  have hT : (⟨(txt [v]).toArray⟩ : ByteArray).data.toList = Lib.encodeRune v := by rw [txt_one]
  have hsz : (⟨(txt [v]).toArray⟩ : ByteArray).size = r.length + 1 := by
    show (txt [v]).toArray.size = _
    rw [txt_one, e]; simp
  have hln : (Lib.encodeRune v).length = r.length + 1 := by rw [e]; rfl
  have hall : ∀ x ∈ [v], okv x := fun x hx => by rw [List.mem_singleton.1 hx]; exact h
  have hget : ∀ i (hi : i < (⟨(txt [v]).toArray⟩ : ByteArray).size), (Lib.encodeRune v)[i]? = some ((⟨(txt [v]).toArray⟩ : ByteArray)[i]'hi) := by
    intro i hi
    rw [← hT, List.getElem?_eq_getElem (by exact hi)]
    rfl
  refine ⟨r.length + 1, ⟨(txt [v]).toArray⟩, c, ⟨hsz, if_pos hall, ?_, ?_, by rw [hsz]; omega, ?_, ?_, ?_, ?_, ?_⟩, by omega⟩
  · rw [hT, ← txt_one]; exact (valid_iff _).2 ⟨_, hall, rfl⟩
  · rw [hT, ← txt_one]; exact sgn_of hall rfl
  · have := hget 0 (by rw [hsz]; omega)
    rw [e] at this
    simpa using this.symm
  · omega
  · intro i h1 hi
    obtain ⟨c', hc', k⟩ := enc_cont h h1 (by rw [hln, ← hsz]; exact hi)
    rw [hget i hi] at hc'
    rw [Option.some.inj hc']; exact k
  · intro i h1 h2
    rw [ByteArray.data_extract, Array.toList_extract, hT]
    have := cut_no h h1 (by omega : i < (Lib.encodeRune v).length)
    simpa [List.extract] using this
  · intro i h1 h2
    rw [ByteArray.data_extract, Array.toList_extract, hT]
    have := rest_no h h1 (by omega : i < (Lib.encodeRune v).length)
    rw [← hln]
    have e2 : (Lib.encodeRune v).extract i (Lib.encodeRune v).length = (Lib.encodeRune v).drop i := by
      simp only [List.extract]
      rw [List.take_of_length_le (by rw [List.length_drop]; omega)]
    rw [e2]; exact this

set_option maxRecDepth 100000 in
set_option maxHeartbeats 4000000 in
theorem UtfForms_any (v : Int) (w : World) (hT : Tabs w) (z1 : -9223372036854775808 ≤ v) (z2 : v ≤ 9223372036854775807) :
    Calls Tryd.prog 8 #[.int .i64 v] w fun e w' => e = .returned (.bool true) ∧ Below w.heap.size w w' := by
  have hr1 : ∀ x ∈ [v], -9223372036854775808 ≤ x ∧ x ≤ 9223372036854775807 := fun x hx => by rw [List.mem_singleton.1 hx]; exact ⟨z1, z2⟩
  have B0 := (Below.refl w.heap.size w).alloc (Nat.le_refl _) (.cells (([v] : List Int).flatMap encI).toArray 3)
  have c1 := UText_any _ [v] _ (by simp) (sl_lit w [v] (by simp [maxLen])) hr1
  have cW := hid (fun W (hB : Below w.heap.size w W) => wakes9 W (hT.below hB))
  by_cases ho : okv v
  · obtain ⟨n, T, c, hF, hn⟩ := form_of ho
    have hs := hF.size
    obtain ⟨y1, y2, y3⟩ := ho
    have hn4 : 1 ≤ n ∧ n ≤ 4 := by omega
    have cV := hid (fun W (hB : Below w.heap.size w W) => Valid_any T W (by omega) (hT.below hB))
    have cS := hid (fun W (hB : Below w.heap.size w W) => Signs_any T W (by omega) (hT.below hB))
    have cA := hid (fun W (hB : Below w.heap.size w W) i (h1 : 1 ≤ i) (h2 : i < n) => by
      have := Valid_any (T.extract 0 i) W (by rw [ByteArray.size_extract]; omega) (hT.below hB)
      rw [hF.head i h1 h2] at this; exact this)
    have cB := hid (fun W (hB : Below w.heap.size w W) i (h1 : 1 ≤ i) (h2 : i < n) => by
      have := Valid_any (T.extract i n) W (by rw [ByteArray.size_extract]; omega) (hT.below hB)
      rw [hF.tail i h1 h2] at this; exact this)
    rw [hF.valid] at cV
    rw [hF.signs] at cS
    have ht := hid hF.text
    have hpos := hF.pos
    have hf0 := hF.first
    have hlow := hid hF.low
    have hF := hid hF
    clear hT
    have hs' : (T.size : Int) = n := by rw [hs]
    obtain ⟨m1, m2, g1, g2, g3⟩ : ∃ m1 m2 : Int, (128 ≤ v ∧ m1 = 2 ∨ v < 128 ∧ m1 = 1) ∧ (2048 ≤ v ∧ m2 = m1 + 1 ∨ v < 2048 ∧ m2 = m1) ∧ (65536 ≤ v ∧ (n : Int) = m2 + 1 ∨ v < 65536 ∧ (n : Int) = m2) := by
      rcases hn with h | h | h | h
      · exact ⟨1, 1, by omega, by omega, by omega⟩
      · exact ⟨2, 2, by omega, by omega, by omega⟩
      · exact ⟨2, 3, by omega, by omega, by omega⟩
      · exact ⟨2, 3, by omega, by omega, by omega⟩
    have g12 : 1 ≤ m1 ∧ m1 ≤ 2 ∧ 1 ≤ m2 ∧ m2 ≤ 3 := by omega
    replace g1 := hid g1
    replace g2 := hid g2
    replace g3 := hid g3
    have y4 := hid y3
    clear y3 hn
    go_enter Tryd.func8, Tryd.ntmps8
    go_wp2_with (fail)
    refine c1.mono ?_
    rintro e w1 ⟨rfl, b1⟩
    rw [Hid.out ht]
    have B1 := B0.trans (b1.mono B0.size)
    clear b1 B0 c1
    go_upto_region 2 with (fail)
    go_cut [5] (fun a wx => a = .bool false ∧ wx = w1)
    case first =>
      rcases (by have := Hid.out y4; omega : v < 55296 ∨ 55296 ≤ v ∧ 57343 < v) with x4 | ⟨x4, x5⟩
      all_goals
        go_wp2
        go_meet
        exact ⟨congrArg Value.bool (by simp; omega), rfl⟩
    case rest =>
      obtain ⟨rfl, rfl⟩ := hcut
      go_upto_if 39 with (fail)
      go_cut [6] (fun a wx => a = .int .i64 m1 ∧ wx = wc)
      case first =>
        rcases Hid.out g1 with ⟨x1, rfl⟩ | ⟨x1, rfl⟩
        all_goals
          go_wp2
          go_meet
          exact ⟨rfl, rfl⟩
      case rest =>
        obtain ⟨rfl, rfl⟩ := hcut
        go_upto_if 43 with (fail)
        go_cut [6] (fun a wx => a = .int .i64 m2 ∧ wx = wc)
        case first =>
          rcases Hid.out g2 with ⟨x1, rfl⟩ | ⟨x1, rfl⟩
          all_goals
            go_wp2
            go_meet
            exact ⟨rfl, rfl⟩
        case rest =>
          obtain ⟨rfl, rfl⟩ := hcut
          go_upto_if 47 with (fail)
          go_cut [6] (fun a wx => a = .int .i64 n ∧ wx = wc)
          case first =>
            rcases Hid.out g3 with ⟨x1, x2⟩ | ⟨x1, x2⟩
            all_goals
              replace x2 := hid x2
              go_wp2
              go_meet
              exact ⟨by rw [Hid.out x2], rfl⟩
          case rest =>
            obtain ⟨rfl, rfl⟩ := hcut
            go_wp2_with (fail)
            refine (Hid.out cV _ B1).mono ?_
            rintro e w2 ⟨rfl, b2⟩
            have B2 := B1.trans (b2.mono B1.size)
            clear b2 B1 cV y4 g1 g2 g3
            go_wp2_with (fail)
            go_loopw [2, 7] (fun a i wr => ∃ k : Nat, 1 ≤ k ∧ k ≤ n ∧ a = .bool false ∧ i = .int .i64 k ∧ Below w.heap.size w wr) (fun _ i _ => n - (RowKit.intOf i).toNat)
            case atStart => exact ⟨1, Nat.le_refl _, by omega, rfl, rfl, B2⟩
            case round =>
              obtain ⟨k, hk1, hk2, rfl, rfl, B3⟩ := hrel
              by_cases hkn : k < n
              · have hkt : k < T.size := by omega
                have hct := (Hid.out hF).cont k hk1 hkt
                obtain ⟨d, hd⟩ : ∃ d, T[k]'hkt = d := ⟨_, rfl⟩
                rw [hd] at hct
                have cA' := Hid.out cA wr B3 k hk1 hkn
                have cB' := fun W hB => Hid.out cB W hB k hk1 hkn
                replace cB' := hid cB'
                go_wp2_with (fail)
                refine cA'.mono ?_
                rintro e w3 ⟨rfl, b3⟩
                have B4 := B3.trans (b3.mono B3.size)
                clear b3 B3 cA'
                go_wp2_with (fail)
                refine (Hid.out cB' _ B4).mono ?_
                rintro e w4 ⟨rfl, b4⟩
                have B5 := B4.trans (b4.mono B4.size)
                clear b4 B4 cB'
                go_wp2_with (fail)
                refine ⟨⟨k + 1, by omega, by omega, rfl, rfl, B5⟩, ?_⟩
                simp only [RowKit.intOf]; omega
              · obtain rfl : k = n := by omega
                have hq : ((k : Int) = 1 ∧ (c.toNat : Int) < 128) ∨ (¬ (k : Int) = 1 ∧ ¬ (c.toNat : Int) < 128) := by
                  have := Hid.out hlow
                  by_cases h : k = 1
                  · exact .inl ⟨by omega, by have := this.2 h; omega⟩
                  · exact .inr ⟨by omega, fun h2 => h (this.1 (by omega))⟩
                rcases hq with ⟨p1, p2⟩ | ⟨p1, p2⟩
                all_goals
                  go_wp2_with (fail)
                  refine (Hid.out cS _ B3).mono ?_
                  rintro e w5 ⟨vs, rfl, hsv, b5⟩
                  have B6 := B3.trans (b5.mono B3.size)
                  have l5 := sl_lit w5 [v] (by simp [maxLen])
                  have c5 := Ints_eq _ _ _ _ _ ((Kept.alloc 0 w5 _).sl hsv) l5 rfl
                  have B7 := B6.alloc B6.size (.cells (([v] : List Int).flatMap encI).toArray 3)
                  clear b5 B3 hsv l5 B6
                  go_wp2_with (fail)
                  refine c5.mono ?_
                  rintro e w6 ⟨rfl, m, rfl⟩
                  have B8 := B7.drewN m
                  clear c5 B7
                  go_wp2_with (fail)
                  refine (Hid.out cW _ B8).mono ?_
                  rintro e w7 ⟨rfl, b7⟩
                  have B9 := B8.trans (b7.mono B8.size)
                  go_wp2
                  go_ret
                  first
                  | exact ⟨rfl, B9⟩
                  | exact ⟨ret_bool (by simp; omega), B9⟩
  · have ht := hid (show textOut [v] = _ from if_neg (fun h => ho (h v (by simp))))
    have hcs : v < 0 ∨ (0 ≤ v ∧ 1114111 < v) ∨ (0 ≤ v ∧ v ≤ 1114111 ∧ 55296 ≤ v ∧ v ≤ 57343) := by unfold okv at ho; omega
    clear ho hT
    rcases hcs with x1 | ⟨x1, x2⟩ | ⟨x1, x2, x3, x4⟩
    all_goals
      go_enter Tryd.func8, Tryd.ntmps8
      go_wp2_with (fail)
      refine c1.mono ?_
      rintro e w1 ⟨rfl, b1⟩
      rw [Hid.out ht]
      have B1 := B0.trans (b1.mono B0.size)
      clear b1 B0 c1
      go_wp2_with (fail)
      refine (Hid.out cW _ B1).mono ?_
      rintro e w2 ⟨rfl, b2⟩
      have B2 := B1.trans (b2.mono B1.size)
      go_wp2
      go_ret
      exact ⟨rfl, B2⟩
end Go.Proofs.YtncohgkpdfmdgaaDoor
