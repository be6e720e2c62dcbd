/- The walk of the reference's unhex (printed by gen_scw.py). -/
import Derived.Test.YtkmnmigpnbehaaaDoorScU
import Derived.Deep.QuietTactic
namespace Go.Proofs.YtkmnmigpnbehaaaDoor
open Go.RowKit Go.Shelf Go.Lib

/-- the number of a byte's first q digits -/
def PV (a c : UInt8) (q v : Nat) : Prop := (q = 0 ∧ v = 0) ∨ (q = 1 ∧ hexv a = some v) ∨ (q = 2 ∧ ∃ x y, hexv a = some x ∧ hexv c = some y ∧ v = 16 * x + y)
theorem PV.step {a c g : UInt8} {q v d : Nat} (h : PV a c q v) (h0 : q = 0 → g = a) (h1 : q = 1 → g = c) (hq : q < 2) (hd : hexv g = some d) : PV a c (q + 1) (v * 16 + d) := by
  rcases h with ⟨rfl, rfl⟩ | ⟨rfl, h⟩ | ⟨rfl, -⟩
  · exact .inr (.inl ⟨rfl, by rw [← h0 rfl, hd]; simp⟩)
  · exact .inr (.inr ⟨rfl, v, d, h, by rw [← h1 rfl, hd], by omega⟩)
  · omega
theorem PV.le {a c : UInt8} {q v : Nat} (h : PV a c q v) : v ≤ 255 := by
  rcases h with ⟨-, rfl⟩ | ⟨-, h⟩ | ⟨-, x, y, hx, hy, rfl⟩
  · omega
  · have := (dig_hexv h).1; omega
  · have h1 := (dig_hexv hx).1
    have h2 := (dig_hexv hy).1
    omega
/-- none of the digits -/
theorem hexv_none {g : UInt8} (h : ∀ j, j < 16 → dig j ≠ g) : hexv g = none := by
  cases e : hexv g with
  | none => rfl
  | some k => exact absurd (dig_hexv e).2 (h k (dig_hexv e).1)
theorem unhex_bad {a c g : UInt8} {q v : Nat} {r : L8} (h : PV a c q v) (h0 : q = 0 → g = a) (h1 : q = 1 → g = c) (hq : q < 2) (hg : hexv g = none) : unhexL (a :: c :: r) = none := by
  rw [unhexL]
  rcases h with ⟨rfl, rfl⟩ | ⟨rfl, h⟩ | ⟨rfl, -⟩
  · rw [← h0 rfl, hg]; rfl
  · rw [h, Option.bind_some, ← h1 rfl, hg]; rfl
  · omega

set_option maxRecDepth 100000 in
set_option maxHeartbeats 1000000 in
theorem unhex_any (s : ByteArray) (w : World) (hs : s.size ≤ 1000000) :
    Calls Tryd.prog 19 #[.string s] w fun e w' => ∃ x : ByteArray, e = .returned (.tuple #[.string x, .bool (textS s.data.toList).isSome]) ∧ (∀ b, textS s.data.toList = some b → x.data.toList = b) ∧ Below w.heap.size w w' := by
  have hl : s.toList = s.data.toList := Lib.toList_data s
  have hz : s.data.toList.length = s.size := Lib.size_eq s |>.symm
  have hX : textS s.data.toList = if s.data.toList = [45] then some [] else if s.data.toList = [] ∨ s.data.toList.length % 2 ≠ 0 ∨ 480 < s.data.toList.length then none else unhexL s.data.toList := rfl
  go_enter Tryd.func19, Tryd.ntmps19
  by_cases h1 : s.data.toList = [45]
  · rw [if_pos h1] at hX
    have c1 : (s.toList == [45]) = true := by rw [hl, h1]; rfl
    replace hX := hid hX
    replace h1 := hid h1
    clear hl hz
    go_wp2_with (fail)
    go_ret2
    exact ⟨⟨#[]⟩, by rw [hX.out]; rfl, fun b hb => (by rw [hX.out] at hb; cases hb; rfl), Below.refl _ _⟩
  · by_cases h2 : s.data.toList = [] ∨ s.data.toList.length % 2 ≠ 0 ∨ 480 < s.data.toList.length
    · rw [if_neg h1, if_pos h2] at hX
      replace hX := hid hX
      have c1 : (s.toList == [45]) = false := by rw [hl, beq_eq_false_iff_ne]; exact h1
      obtain ⟨e0, he0⟩ : ∃ b : Bool, s.toList.isEmpty = b := ⟨_, rfl⟩
      have hmod : ((s.size : Int).tmod 2) = ((s.size % 2 : Nat) : Int) := rfl
      replace h1 := hid h1
      rw [hz] at h2
      clear hl
      cases e0
      · have h2' : ((s.size % 2 : Nat) : Int) ≠ 0 ∨ (480 : Int) < (s.size : Int) := by
          rcases h2 with h | h | h
          · exfalso
            rw [Lib.toList_data, h] at he0
            cases he0
          · left; omega
          · right; omega
        clear h2
        by_cases h3 : ((s.size % 2 : Nat) : Int) = 0
        · have h4 : (480 : Int) < (s.size : Int) := h2'.resolve_left (fun h => h h3)
          have c3 : (((s.size % 2 : Nat) : Int) != 0) = false := by rw [h3]; rfl
          clear h2'
          replace h3 := hid h3
          go_wp2_with (fail)
          go_ret2
          exact ⟨⟨#[]⟩, by rw [hX.out]; rfl, fun b hb => (by rw [hX.out] at hb; cases hb), Below.refl _ _⟩
        · have c3 : (((s.size % 2 : Nat) : Int) != 0) = true := by simpa using h3
          clear h2'
          replace h3 := hid h3
          go_wp2_with (fail)
          go_ret2
          exact ⟨⟨#[]⟩, by rw [hX.out]; rfl, fun b hb => (by rw [hX.out] at hb; cases hb), Below.refl _ _⟩
      · clear h2
        go_wp2_with (fail)
        go_ret2
        exact ⟨⟨#[]⟩, by rw [hX.out]; rfl, fun b hb => (by rw [hX.out] at hb; cases hb), Below.refl _ _⟩
    · rw [if_neg h1, if_neg h2] at hX
      have c1 : (s.toList == [45]) = false := by rw [hl, beq_eq_false_iff_ne]; exact h1
      have hev : s.size % 2 = 0 := by
        have : s.data.toList.length % 2 = 0 := by
          by_cases h : s.data.toList.length % 2 = 0
          · exact h
          · exact absurd (.inr (.inl h)) h2
        rw [hz] at this; exact this
      have hle : s.size ≤ 480 := by
        have : ¬ 480 < s.data.toList.length := fun h => h2 (.inr (.inr h))
        rw [hz] at this; omega
      have hne : s.toList.isEmpty = false := by
        rw [hl]
        cases e : s.data.toList with
        | nil => exact absurd (.inl e) h2
        | cons a b => rfl
      have hmod : ((s.size : Int).tmod 2) = ((s.size % 2 : Nat) : Int) := rfl
      have c3 : (s.size : Int) % 2 = 0 := by omega
      have h480 : ¬ (480 : Int) < (s.size : Int) := by omega
      replace hX := hid hX
      replace h1 := hid h1
      replace h2 := hid h2
      replace hev := hid hev
      clear hl
      obtain ⟨i0, hi, hz0, hz1, hz2⟩ := info_parts Tryd.infoU8
      go_wp2_with (fail)
      go_loopw [4, 5] (fun ov i wr => ∃ (m : Nat) (B : L8), m ≤ s.size ∧ i = .int .i64 m ∧ 2 * B.length = m ∧ unhexL s.data.toList = (unhexL (s.data.toList.drop m)).map (fun t => B ++ t) ∧ (∃ x, ov = x ∧ wr.ownsRow w.heap.size 5 1 x B.length (B.flatMap encB)) ∧ Below w.heap.size w wr) (fun _ i _ => s.size - (RowKit.intOf i).toNat)
      case atStart => exact ⟨0, [], Nat.zero_le _, rfl, rfl, by simp, ⟨_, rfl, World.ownsRow_nil _ _ _ _⟩, Below.refl _ _⟩
      case round =>
        obtain ⟨m, B, hk, rfl, hBl, hU, ⟨x0, rfl, o0⟩, hB⟩ := hrel
        by_cases hkl : m < s.size
        · have hkI : (m : Int) < (s.size : Int) := by omega
          have hev2 := hev.out
          have hk2 : m + 1 < s.size := by omega
          have hm2 : IntKind.i64.wrap ((m : Int) + 2) = (m : Int) + 2 := by rw [IntKind.wrap_i64]; omega
          have hd : s.data.toList.drop m = s[m] :: s[m + 1] :: s.data.toList.drop (m + 2) := by
            have l1 : m < s.data.toList.length := by rw [hz]; omega
            have l2 : m + 1 < s.data.toList.length := by rw [hz]; omega
            rw [List.drop_eq_getElem_cons l1, List.drop_eq_getElem_cons l2]
            rfl
          rw [hd] at hU
          obtain ⟨a, hsa⟩ : ∃ a, s[m] = a := ⟨_, rfl⟩
          obtain ⟨c, hsc⟩ : ∃ a, s[m + 1] = a := ⟨_, rfl⟩
          rw [hsa, hsc] at hU
          replace hU := hid hU
          replace hsa := hid hsa
          replace hsc := hid hsc
          obtain ⟨px, qx, rfl, -, -⟩ := owns_shape o0
          obtain ⟨W0, hW0⟩ : ∃ V : World, V = wr := ⟨_, rfl⟩
          rw [← hW0] at o0 hB
          have hdr0 : Drew W0 wr := by rw [hW0]; exact Drew.refl _
          clear hd hW0
          go_wp2_with (fail)
          go_loopw [6, 7] (fun vv kv wr => ∃ q v kk : Nat, q ≤ 2 ∧ kk = m + q ∧ kv = .int .i64 kk ∧ vv = .int .i64 v ∧ PV a c q v ∧ Drew W0 wr) (fun _ kv _ => m + 2 - (RowKit.intOf kv).toNat)
          case atStart => exact ⟨0, 0, m, Nat.zero_le _, rfl, rfl, rfl, .inl ⟨rfl, rfl⟩, hdr0⟩
          case round =>
            obtain ⟨q, v, kk, hq, hkk, rfl, rfl, hpv, hdr⟩ := hrel
            clear hdr0
            have hv := hpv.le
            by_cases hq2 : q < 2
            · have hkI2 : (kk : Int) < (m : Int) + 2 := by omega
              have hks : kk < s.size := by omega
              have hksI : (kk : Int) < (s.size : Int) := by omega
              obtain ⟨g, hg⟩ : ∃ g, s[kk] = g := ⟨_, rfl⟩
              have hg0 : q = 0 → g = a := fun h => by subst h; subst hkk; rw [← hg, ← hsa.out]
              have hg1 : q = 1 → g = c := fun h => by subst h; subst hkk; rw [← hg, ← hsc.out]
              have hgl := g.toNat_lt
              have hw16 : IntKind.i64.wrap ((v : Int) * 16) = (v : Int) * 16 := by rw [IntKind.wrap_i64]; omega
              replace hpv := hid hpv
              replace hkk := hid hkk
              replace hg0 := hid hg0
              replace hg1 := hid hg1
              go_wp2_with (fail)
              go_loopw [8] (fun dv wr => ∃ d : Nat, d ≤ 16 ∧ dv = .int .i64 d ∧ (∀ j, j < d → dig j ≠ g) ∧ Drew W0 wr) (fun dv _ => 16 - (RowKit.intOf dv).toNat)
              case atStart => exact ⟨0, Nat.zero_le _, rfl, fun j hj => absurd hj (Nat.not_lt_zero j), hdr⟩
              case round =>
                obtain ⟨d, hd, rfl, hno, hdr2⟩ := hrel
                clear hdr
                by_cases hd16 : d < 16
                · have hdI : (d : Int) < 16 := by omega
                  obtain ⟨hd3, hd4⟩ := digB_at hd16
                  unfold digB at hd3 hd4
                  obtain ⟨u, hu⟩ : ∃ u : UInt8, (⟨#[48, 49, 50, 51, 52, 53, 54, 55, 56, 57, 97, 98, 99, 100, 101, 102]⟩ : ByteArray)[d]'hd3 = u := ⟨_, rfl⟩
                  rw [hu] at hd4
                  have hvd : IntKind.i64.wrap ((v : Int) * 16 + (d : Int)) = (v : Int) * 16 + (d : Int) := by rw [IntKind.wrap_i64]; omega
                  by_cases hug : u = g
                  · have hub : ((u.toNat : Int) == (g.toNat : Int)) = true := by rw [hug]; simp
                    have hub2 : ((u.toNat : Int) != (g.toNat : Int)) = false := by rw [hug]; simp
                    have hxd : hexv g = some d := by rw [← hug, hd4]; exact hexv_dig hd16
                    have hpv2 := hpv.out.step hg0.out hg1.out hq2 hxd
                    have hdn : ((d : Int) == 16) = false := by rw [beq_eq_false_iff_ne]; omega
                    replace hug := hid hug
                    replace hd4 := hid hd4
                    replace hxd := hid hxd
                    replace hno := hid hno
                    replace hpv2 := hid hpv2
                    go_wp2_with (fail)
                    go_quiet (fail)
                    go_wp2_with (fail)
                    refine ⟨⟨q + 1, v * 16 + d, kk + 1, by omega, by have := hkk.out; omega, by go_num, by go_num, hpv2.out, hdr2.drewN _⟩, by simp [RowKit.intOf]; omega⟩
                  · have hub : ((u.toNat : Int) == (g.toNat : Int)) = false := by
                      rw [beq_eq_false_iff_ne]
                      intro h
                      exact hug (UInt8.toNat_inj.1 (by omega))
                    have hub2 : ((u.toNat : Int) != (g.toNat : Int)) = true := by
                      rw [bne_iff_ne]
                      intro h
                      exact hug (UInt8.toNat_inj.1 (by omega))
                    have hno2 : ∀ j, j < d + 1 → dig j ≠ g := by
                      intro j hj
                      by_cases e : j = d
                      · rw [e, ← hd4]; exact hug
                      · exact hno j (by omega)
                    replace hug := hid hug
                    replace hd4 := hid hd4
                    replace hno := hid hno
                    replace hno2 := hid hno2
                    go_wp2_with (fail)
                    go_quiet (fail)
                    go_wp2_with (fail)
                    refine ⟨⟨d + 1, by omega, by go_num, hno2.out, hdr2.drewN _⟩, by simp [RowKit.intOf]; omega⟩
                · obtain rfl : d = 16 := by omega
                  have hN : textS s.data.toList = none := by
                    rw [hX.out, hU.out, unhex_bad hpv.out hg0.out hg1.out hq2 (hexv_none hno)]; rfl
                  replace hN := hid hN
                  replace hno := hid hno
                  go_wp2_with (fail)
                  go_quiet (fail)
                  go_wp2_with (fail)
                  go_ret2
                  exact ⟨⟨#[]⟩, by rw [hN.out]; rfl, fun b hb => (by rw [hN.out] at hb; cases hb), below_drew hB (hdr2.drewN _)⟩
            · obtain rfl : q = 2 := by omega
              obtain ⟨x, y, hxa, hyc, hvv⟩ : ∃ x y, hexv a = some x ∧ hexv c = some y ∧ v = 16 * x + y := by
                rcases hpv with ⟨h, -⟩ | ⟨h, -⟩ | ⟨-, h⟩
                · omega
                · omega
                · exact h
              have hkn2 : ¬ (kk : Int) < (m : Int) + 2 := by omega
              have hw8 : IntKind.u8.wrap (v : Int) = (v : Int) := by rw [IntKind.wrap_u8]; omega
              have hnb : ((UInt8.ofNat v).toNat : Int) = (v : Int) := by rw [UInt8.toNat_ofNat']; omega
              have hU2 : unhexL s.data.toList = (unhexL (s.data.toList.drop (m + 2))).map (fun t => (B ++ [UInt8.ofNat v]) ++ t) := by
                rw [hU.out, unhexL, hxa, hyc, Option.bind_some, Option.bind_some, Option.map_map, hvv]
                refine congrArg (fun f => Option.map f _) (funext fun t => ?_)
                simp
              have o0c := (Kept.of_drew (B := 0) hdr).owns o0
              have hBw := below_drew hB hdr
              have oA := o0c.alloc (.cells #[.int .u8 (v : Int)] 5)
              have slA : Sl (wr.alloc (.cells #[.int .u8 (v : Int)] 5)) 1 encB (.slice (some ⟨wr.heap.size, 0, none⟩) 1 1) [UInt8.ofNat v] := sl_of_block (l := [UInt8.ofNat v]) (World.alloc_heap_new wr _) (by show [Value.int .u8 (v : Int)] = [Value.int .u8 _]; rw [hnb]) (fun _ _ => rfl) (Nat.le_refl 1) (by decide)
              have hBA := hBw.alloc hBw.size (.cells #[.int .u8 (v : Int)] 5)
              replace hU2 := hid hU2
              replace hxa := hid hxa
              replace hyc := hid hyc
              replace hvv := hid hvv
              replace hpv := hid hpv
              replace hnb := hid hnb
              go_wp2_with (at_builtin; go_must (first
                | (refine wpList_append_sl rfl _ _ 41 rfl w.heap.size 5 i0 (.int .u8 0) 1 1 Tryd.underlying41 hi hz0 hz1 hz2 rfl (by decide) _ _ _ rfl oA encB _ [UInt8.ofNat v] rfl slA (fun x _ => ⟨rfl, fun u hu => by obtain rfl := List.mem_singleton.1 hu; rfl⟩) (by unfold maxLen; simp only [List.length_cons, List.length_nil]; omega) (by simp only [List.length_cons, List.length_nil]; omega) hBA.size ?_
                   intro v9 V9 own9 grow9 _)))
              have hB9 := hBA.grown grow9 hBA.size (fun _ e => own_baseS oA e)
              rw [← List.length_append, ← List.flatMap_append] at own9
              refine ⟨⟨m + 2, B ++ [UInt8.ofNat v], by omega, by go_num, by rw [List.length_append]; simp only [List.length_cons, List.length_nil]; omega, hU2.out, ⟨_, rfl, own9⟩, hB9⟩, by simp [RowKit.intOf]; omega⟩
        · have hke : m = s.size := by omega
          have hN : textS s.data.toList = some B := by
            rw [hX.out, hU, hke, ← hz, List.drop_length]
            simp [unhexL]
          have hB0 : B ≠ [] := by
            rintro rfl
            have hm0 : m = 0 := by simpa using hBl.symm
            have : s.data.toList = [] := List.eq_nil_of_length_eq_zero (by rw [hz]; omega)
            rw [Lib.toList_data, this] at hne
            cases hne
          obtain ⟨bb, bo, cap, he, -, hcap, hcs⟩ := (sl_of_owns (enc := encB) (fun _ _ => rfl) o0).open hB0
          subst he
          have hcv : (convert 41 9 (.slice (some ⟨bb, bo, none⟩) B.length cap)).run Tryd.prog wr = .ok (.string ⟨B.toArray⟩) wr := run_convert_bytes_back (P := Tryd.prog) wr 41 9 5 ⟨bb, bo, none⟩ cap B Tryd.underlying41 Tryd.underlying5 Tryd.underlying9 (fun j hj => by
            have := rangeAt_one (hcs j B[j] (List.getElem?_eq_getElem hj))
            rw [Nat.mul_one] at this
            rw [Lib.add_plain]; exact this)
          have hkn : ¬ (m : Int) < (s.size : Int) := by omega
          replace hN := hid hN
          replace hke := hid hke
          clear hU hcs o0
          go_wp2_with (fail)
          go_ret2
          exact ⟨⟨B.toArray⟩, by rw [hN.out]; rfl, fun b hb => (by rw [hN.out] at hb; cases hb; rfl), hB⟩
end Go.Proofs.YtkmnmigpnbehaaaDoor
