/- The walk of script's text (printed by gen_scc.py). -/
import Derived.Test.YtkmnmigpnbehaaaDoorScB
import Derived.Deep.QuietTactic
import Derived.Deep.DeepCutAuto
namespace Go.Proofs.YtkmnmigpnbehaaaDoor
open Go.RowKit Go.Shelf Go.Lib

theorem Below_drS {B : Nat} {a w : World} (h : Below B a w) : Below B a w.drew := ⟨h.os, h.tape, h.output, h.size, h.block⟩
theorem own_baseS {W : World} {base : Nat} {e : TypeId} {size : Nat} {v : Value} {n : Nat} {xs : List Value} (h : W.ownsRow base e size v n xs) {j : Nat} (hj : v.ownBlock = some j) : base ≤ j := by
  obtain ⟨-, ⟨rfl, -⟩ | ⟨b, c, cs, rfl, h1, -⟩⟩ := h
  · simp [Value.ownBlock] at hj
  · obtain rfl : b = j := by simpa [Value.ownBlock] using hj
    exact h1
def digB : ByteArray := ⟨#[48, 49, 50, 51, 52, 53, 54, 55, 56, 57, 97, 98, 99, 100, 101, 102]⟩
/-- where a digit stands -/
def hexI (c : UInt8) : Int := match hexv c with | some k => k | none => -1
theorem hex_index (c : UInt8) : Lib.indexByte digB.data.toList c = hexI c := by
  have h : ∀ n, n < 256 → Lib.indexByte digB.data.toList (UInt8.ofNat n) = hexI (UInt8.ofNat n) := by decide +kernel
  have hc := c.toNat_lt
  have := h c.toNat (by omega)
  simpa using this
theorem hexI_some {c : UInt8} {k : Nat} (h : hexv c = some k) : hexI c = k := by unfold hexI; rw [h]
theorem hexI_none {c : UInt8} (h : hexv c = none) : hexI c = -1 := by unfold hexI; rw [h]
def encB (b : UInt8) : List Value := [.int .u8 b.toNat]
theorem Tryd.infoU8 : (Tryd.prog.info? 5).map (fun i => (i.zero, i.size, i.bytes)) = some (some (.int .u8 0), 1, 1) := by kernel_rfl

set_option maxRecDepth 100000 in
set_option maxHeartbeats 8000000 in
theorem text_any (s : ByteArray) (w : World) (hs : s.size ≤ 1000000) :
    Calls Tryd.prog 33 #[.string s] w fun e w' => ∃ x : ByteArray, e = .returned (.tuple #[.string x, .bool (textS s.data.toList).isSome]) ∧ (∀ b, textS s.data.toList = some b → x.data.toList = b) ∧ Below w.heap.size w w' := by
  have hl : s.toList = s.data.toList := Lib.toList_data s
  have hz : s.data.toList.length = s.size := Lib.size_eq s |>.symm
  have hX : textS s.data.toList = if s.data.toList = [45] then some [] else if s.data.toList = [] ∨ s.data.toList.length % 2 ≠ 0 ∨ 480 < s.data.toList.length then none else unhexL s.data.toList := rfl
  go_enter Tryd.func33, Tryd.ntmps33
  by_cases h1 : s.data.toList = [45]
  · rw [if_pos h1] at hX
    have c1 : (s.toList == [45]) = true := by rw [hl, h1]; rfl
    replace hX := hid hX
    replace h1 := hid h1
    clear hl hz
    go_wp2_with (fail)
    go_ret2
    exact ⟨⟨#[]⟩, by rw [hX.out]; rfl, fun b hb => (by rw [hX.out] at hb; cases hb; rfl), Below.refl _ _⟩
  · by_cases h2 : s.data.toList = [] ∨ s.data.toList.length % 2 ≠ 0 ∨ 480 < s.data.toList.length
    · rw [if_neg h1, if_pos h2] at hX
      replace hX := hid hX
      have c1 : (s.toList == [45]) = false := by rw [hl, beq_eq_false_iff_ne]; exact h1
      obtain ⟨e0, he0⟩ : ∃ b : Bool, s.toList.isEmpty = b := ⟨_, rfl⟩
      have hmod : ((s.size : Int).tmod 2) = ((s.size % 2 : Nat) : Int) := rfl
      replace h1 := hid h1
      rw [hz] at h2
      clear hl
      cases e0
      · have h2' : ((s.size % 2 : Nat) : Int) ≠ 0 ∨ (480 : Int) < (s.size : Int) := by
          rcases h2 with h | h | h
          · exfalso
            rw [Lib.toList_data, h] at he0
            cases he0
          · left; omega
          · right; omega
        clear h2
        by_cases h3 : ((s.size % 2 : Nat) : Int) = 0
        · have h4 : (480 : Int) < (s.size : Int) := h2'.resolve_left (fun h => h h3)
          have c3 : (((s.size % 2 : Nat) : Int) != 0) = false := by rw [h3]; rfl
          clear h2'
          replace h3 := hid h3
          go_wp2_with (fail)
          go_ret2
          exact ⟨⟨#[]⟩, by rw [hX.out]; rfl, fun b hb => (by rw [hX.out] at hb; cases hb), Below.refl _ _⟩
        · have c3 : (((s.size % 2 : Nat) : Int) != 0) = true := by simpa using h3
          clear h2'
          replace h3 := hid h3
          go_wp2_with (fail)
          go_ret2
          exact ⟨⟨#[]⟩, by rw [hX.out]; rfl, fun b hb => (by rw [hX.out] at hb; cases hb), Below.refl _ _⟩
      · clear h2
        go_wp2_with (fail)
        go_ret2
        exact ⟨⟨#[]⟩, by rw [hX.out]; rfl, fun b hb => (by rw [hX.out] at hb; cases hb), Below.refl _ _⟩
    · rw [if_neg h1, if_neg h2] at hX
      have c1 : (s.toList == [45]) = false := by rw [hl, beq_eq_false_iff_ne]; exact h1
      have hev : s.size % 2 = 0 := by
        have : s.data.toList.length % 2 = 0 := by
          by_cases h : s.data.toList.length % 2 = 0
          · exact h
          · exact absurd (.inr (.inl h)) h2
        rw [hz] at this; exact this
      have hle : s.size ≤ 480 := by
        have : ¬ 480 < s.data.toList.length := fun h => h2 (.inr (.inr h))
        rw [hz] at this; omega
      have hne : s.toList.isEmpty = false := by
        rw [hl]
        cases e : s.data.toList with
        | nil => exact absurd (.inl e) h2
        | cons a b => rfl
      have hmod : ((s.size : Int).tmod 2) = ((s.size % 2 : Nat) : Int) := rfl
      have c3 : (s.size : Int) % 2 = 0 := by omega
      have h480 : ¬ (480 : Int) < (s.size : Int) := by omega
      replace hX := hid hX
      replace h1 := hid h1
      replace h2 := hid h2
      replace hev := hid hev
      clear hl
      obtain ⟨i0, hi, hz0, hz1, hz2⟩ := info_parts Tryd.infoU8
      go_wp2_with (fail)
      go_loopw [4, 5, 6, 7] (fun ov i _ _ wr => ∃ (m : Nat) (B : L8), m ≤ s.size ∧ i = .int .i64 m ∧ 2 * B.length = m ∧ unhexL s.data.toList = (unhexL (s.data.toList.drop m)).map (fun t => B ++ t) ∧ (∃ x, ov = x ∧ wr.ownsRow w.heap.size 5 1 x B.length (B.flatMap encB)) ∧ Below w.heap.size w wr) (fun _ i _ _ _ => s.size - (RowKit.intOf i).toNat)
      case atStart => exact ⟨0, [], Nat.zero_le _, rfl, rfl, by simp, ⟨_, rfl, World.ownsRow_nil _ _ _ _⟩, Below.refl _ _⟩
      case round =>
        obtain ⟨m, B, hk, rfl, hBl, hU, ⟨x0, rfl, o0⟩, hB⟩ := hrel
        by_cases hkl : m < s.size
        · have hkI : (m : Int) < (s.size : Int) := by omega
          have hev2 := hev.out
          have hk2 : m + 1 < s.size := by omega
          have hkJ : (m : Int) + 1 < (s.size : Int) := by omega
          have hm1 : (0 : Int) ≤ (m : Int) + 1 := by omega
          have hwm : IntKind.i64.wrap ((m : Int) + 1) = (m : Int) + 1 := by rw [IntKind.wrap_i64]; omega
          have hd : s.data.toList.drop m = s[m] :: s[m + 1] :: s.data.toList.drop (m + 2) := by
            have l1 : m < s.data.toList.length := by rw [hz]; omega
            have l2 : m + 1 < s.data.toList.length := by rw [hz]; omega
            rw [List.drop_eq_getElem_cons l1, List.drop_eq_getElem_cons l2]
            rfl
          rw [hd, unhexL] at hU
          obtain ⟨a, hsa⟩ : ∃ a, s[m] = a := ⟨_, rfl⟩
          obtain ⟨c, hsc⟩ : ∃ a, s[m + 1] = a := ⟨_, rfl⟩
          rw [hsa, hsc] at hU
          have cI1 := hid (fun V => Tryd.strings_IndexByte digB (a.toNat : Int) V)
          have cI2 := hid (fun V => Tryd.strings_IndexByte digB (c.toNat : Int) V)
          have ea : ((a.toNat : Int).toNat.toUInt8) = a := by simp
          have ec : ((c.toNat : Int).toNat.toUInt8) = c := by simp
          simp only [ea, ec, hex_index] at cI1 cI2
          unfold digB at cI1 cI2
          obtain ⟨ia, hia⟩ : ∃ n, hexI a = n := ⟨_, rfl⟩
          obtain ⟨ic, hic⟩ : ∃ n, hexI c = n := ⟨_, rfl⟩
          rw [hia] at cI1
          rw [hic] at cI2
          replace hia := hid hia
          replace hic := hid hic
          replace hU := hid hU
          clear hd
          go_upto_region 9 with (fail)
          go_cut [6, 7] (fun x y wx => x = .int .i64 ia ∧ y = .int .i64 ic ∧ Below wr.heap.size wr wx)
          case first =>
            refine wp_region_any (by kernel_rfl) ?_
            try (change wpAny _ _ _ _ _ _ _ (World.drew _))
            refine wpAny_take (i := 0) (oi := ⟨some 29, _, _, _, _, _⟩) (v := ?_) rfl (by kernel_rfl) (by kernel_rfl) (by kernel_rfl) (fun _ _ _ h => h) (Or.inl ⟨by rfl, ?_⟩) ?_
            rotate_left
            · intro w; go_simp <;> with_reducible rfl
            simp only [Act.put, List.setIfInBounds_toArray, List.set_cons_zero, List.set_cons_succ]
            refine wpAny_take (i := 1) (oi := ⟨some 30, _, _, _, _, _⟩) (v := ?_) rfl (by kernel_rfl) (by kernel_rfl) (by kernel_rfl) (fun _ _ _ h => h) (Or.inl ⟨by rfl, ?_⟩) ?_
            rotate_left
            · intro w; go_simp <;> with_reducible rfl
            simp only [Act.put, List.setIfInBounds_toArray, List.set_cons_zero, List.set_cons_succ]
            refine wpAny_take (i := 2) (oi := ⟨some 31, _, _, _, _, _⟩) (v := ?_) rfl (by kernel_rfl) (by kernel_rfl) (by kernel_rfl) (fun _ _ _ h => h) (Or.inl ⟨by rfl, ?_⟩) ?_
            rotate_left
            · intro w; go_simp <;> with_reducible rfl
            simp only [Act.put, List.setIfInBounds_toArray, List.set_cons_zero, List.set_cons_succ]
            refine wpAny_take (i := 4) (oi := ⟨some 33, _, _, _, _, _⟩) (v := ?_) rfl (by kernel_rfl) (by kernel_rfl) (by kernel_rfl) (fun _ _ _ h => h) (Or.inl ⟨by rfl, ?_⟩) ?_
            rotate_left
            · intro w; go_simp <;> with_reducible rfl
            simp only [Act.put, List.setIfInBounds_toArray, List.set_cons_zero, List.set_cons_succ]
            refine wpAny_take (i := 5) (oi := ⟨some 34, _, _, _, _, _⟩) (v := ?_) rfl (by kernel_rfl) (by kernel_rfl) (by kernel_rfl) (fun _ _ _ h => h) (Or.inl ⟨by rfl, ?_⟩) ?_
            rotate_left
            · intro w; go_simp <;> with_reducible rfl
            simp only [Act.put, List.setIfInBounds_toArray, List.set_cons_zero, List.set_cons_succ]
            refine wpAny_take (i := 6) (oi := ⟨some 35, _, _, _, _, _⟩) (v := ?_) rfl (by kernel_rfl) (by kernel_rfl) (by kernel_rfl) (fun _ _ _ h => h) (Or.inl ⟨by rfl, ?_⟩) ?_
            rotate_left
            · intro w; go_simp <;> with_reducible rfl
            simp only [Act.put, List.setIfInBounds_toArray, List.set_cons_zero, List.set_cons_succ]
            try simp only [hwm]
            refine wpAny_take (i := 7) (oi := ⟨some 36, _, _, _, _, _⟩) (v := ?_) rfl (by kernel_rfl) (by kernel_rfl) (by kernel_rfl) (fun _ _ _ h => h) (Or.inl ⟨by rfl, ?_⟩) ?_
            rotate_left
            · intro w; go_simp <;> with_reducible rfl
            simp only [Act.put, List.setIfInBounds_toArray, List.set_cons_zero, List.set_cons_succ]
            refine wpAny_ready (rs := [3]) (by kernel_rfl) (by simp) ?_
            refine AllReady.cons rfl (fun K hK => ?_) AllReady.nil
            go_simp
            refine (cI1.out _).mono ?_
            rintro e w9 ⟨rfl, rfl⟩
            first | refine hK _ _ ?_ | refine ⟨trivial, hK _ _ ?_⟩ | refine ⟨fun _ _ => trivial, hK _ _ ?_⟩
            clear hK K
            refine wpAny_ready (rs := [8]) (by kernel_rfl) (by simp) ?_
            refine AllReady.cons rfl (fun K hK => ?_) AllReady.nil
            go_simp
            refine (cI2.out _).mono ?_
            rintro e w9 ⟨rfl, rfl⟩
            first | refine hK _ _ ?_ | refine ⟨trivial, hK _ _ ?_⟩ | refine ⟨fun _ _ => trivial, hK _ _ ?_⟩
            clear hK K
            refine wpAny_take (i := 9) (oi := ⟨some 6, _, _, _, _, _⟩) (v := ?_) rfl (by kernel_rfl) (by kernel_rfl) (by kernel_rfl) (fun _ _ _ h => h) (Or.inl ⟨by rfl, ?_⟩) ?_
            rotate_left
            · intro w; go_simp <;> with_reducible rfl
            simp only [Act.put, List.setIfInBounds_toArray, List.set_cons_zero, List.set_cons_succ]
            refine wpAny_take (i := 10) (oi := ⟨some 7, _, _, _, _, _⟩) (v := ?_) rfl (by kernel_rfl) (by kernel_rfl) (by kernel_rfl) (fun _ _ _ h => h) (Or.inl ⟨by rfl, ?_⟩) ?_
            rotate_left
            · intro w; go_simp <;> with_reducible rfl
            simp only [Act.put, List.setIfInBounds_toArray, List.set_cons_zero, List.set_cons_succ]
            refine wpAny_done (by kernel_rfl) ?_ _
            go_wp2_with (fail)
            go_meet
            case rel => exact ⟨rfl, rfl, Below_drS (Below.refl wr.heap.size wr)⟩
          case rest =>
            obtain ⟨rfl, rfl, hBc⟩ := hcut
            have o0c := (Kept.of_below hBc 0).owns o0
            have hBw := hB.trans (hBc.mono hB.size)
            clear cI1 cI2 ea ec
            cases ha : hexv a with
            | none =>
              have hN : textS s.data.toList = none := by rw [hX.out, hU.out, ha, Option.bind_none, Option.map_none]
              obtain rfl : ia = -1 := by rw [← hia.out, hexI_none ha]
              replace hN := hid hN
              replace ha := hid ha
              go_wp2_with (fail)
              go_ret2
              exact ⟨⟨#[]⟩, by rw [hN.out]; rfl, fun b hb => (by rw [hN.out] at hb; cases hb), hBw⟩
            | some x =>
              obtain ⟨hx16, -⟩ := dig_hexv ha
              obtain rfl : ia = (x : Int) := by rw [← hia.out, hexI_some ha]
              cases hc : hexv c with
              | none =>
                have hN : textS s.data.toList = none := by rw [hX.out, hU.out, ha, hc, Option.bind_some, Option.bind_none, Option.map_none]
                obtain rfl : ic = -1 := by rw [← hic.out, hexI_none hc]
                have hx0 : ¬ (x : Int) < 0 := by omega
                replace hN := hid hN
                replace ha := hid ha
                replace hc := hid hc
                go_wp2_with (fail)
                go_ret2
                exact ⟨⟨#[]⟩, by rw [hN.out]; rfl, fun b hb => (by rw [hN.out] at hb; cases hb), hBw⟩
              | some y =>
                obtain ⟨hy16, -⟩ := dig_hexv hc
                obtain rfl : ic = (y : Int) := by rw [← hic.out, hexI_some hc]
                have hx0 : ¬ (x : Int) < 0 := by omega
                have hy0 : ¬ (y : Int) < 0 := by omega
                have hnb : ((UInt8.ofNat (16 * x + y)).toNat : Int) = 16 * (x : Int) + (y : Int) := by rw [UInt8.toNat_ofNat']; omega
                have hwr : IntKind.u8.wrap (16 * (x : Int) + (y : Int)) = 16 * (x : Int) + (y : Int) := by rw [IntKind.wrap_u8]; omega
                have hU2 : unhexL s.data.toList = (unhexL (s.data.toList.drop (m + 2))).map (fun t => (B ++ [UInt8.ofNat (16 * x + y)]) ++ t) := by
                  rw [hU.out, ha, hc, Option.bind_some, Option.bind_some, Option.map_map]
                  refine congrArg (fun f => Option.map f _) (funext fun t => ?_)
                  simp
                have oA := o0c.alloc (.cells #[.int .u8 (16 * (x : Int) + (y : Int))] 5)
                have slA : Sl (wc.alloc (.cells #[.int .u8 (16 * (x : Int) + (y : Int))] 5)) 1 encB (.slice (some ⟨wc.heap.size, 0, none⟩) 1 1) [UInt8.ofNat (16 * x + y)] := sl_of_block (l := [UInt8.ofNat (16 * x + y)]) (World.alloc_heap_new wc _) (by show [Value.int .u8 (16 * (x : Int) + (y : Int))] = [Value.int .u8 _]; rw [hnb]) (fun _ _ => rfl) (Nat.le_refl 1) (by decide)
                have hBA := hBw.alloc hBw.size (.cells #[.int .u8 (16 * (x : Int) + (y : Int))] 5)
                replace hU2 := hid hU2
                replace ha := hid ha
                replace hc := hid hc
                replace hnb := hid hnb
                obtain ⟨px, qx, rfl, -, -⟩ := owns_shape o0
                go_wp2_with (at_builtin; go_must (first
                  | (refine wpList_append_sl rfl _ _ 41 rfl w.heap.size 5 i0 (.int .u8 0) 1 1 Tryd.underlying41 hi hz0 hz1 hz2 rfl (by decide) _ _ _ rfl oA encB _ [UInt8.ofNat (16 * x + y)] rfl slA (fun x _ => ⟨rfl, fun u hu => by obtain rfl := List.mem_singleton.1 hu; rfl⟩) (by unfold maxLen; simp only [List.length_cons, List.length_nil]; omega) (by simp only [List.length_cons, List.length_nil]; omega) hBA.size ?_
                     intro v9 V9 own9 grow9 _)))
                have hB9 := hBA.grown grow9 hBA.size (fun _ e => own_baseS oA e)
                rw [← List.length_append, ← List.flatMap_append] at own9
                refine ⟨⟨m + 2, B ++ [UInt8.ofNat (16 * x + y)], by omega, by go_num, by rw [List.length_append]; simp only [List.length_cons, List.length_nil]; omega, hU2.out, ⟨_, rfl, own9⟩, hB9⟩, by simp [RowKit.intOf]; omega⟩
        · have hke : m = s.size := by omega
          have hN : textS s.data.toList = some B := by
            rw [hX.out, hU, hke, ← hz, List.drop_length]
            simp [unhexL]
          have hB0 : B ≠ [] := by
            rintro rfl
            have hm0 : m = 0 := by simpa using hBl.symm
            have : s.data.toList = [] := List.eq_nil_of_length_eq_zero (by rw [hz]; omega)
            rw [Lib.toList_data, this] at hne
            cases hne
          obtain ⟨bb, bo, cap, he, -, hcap, hcs⟩ := (sl_of_owns (enc := encB) (fun _ _ => rfl) o0).open hB0
          subst he
          have hcv : (convert 41 9 (.slice (some ⟨bb, bo, none⟩) B.length cap)).run Tryd.prog wr = .ok (.string ⟨B.toArray⟩) wr := run_convert_bytes_back (P := Tryd.prog) wr 41 9 5 ⟨bb, bo, none⟩ cap B Tryd.underlying41 Tryd.underlying5 Tryd.underlying9 (fun j hj => by
            have := rangeAt_one (hcs j B[j] (List.getElem?_eq_getElem hj))
            rw [Nat.mul_one] at this
            rw [Lib.add_plain]; exact this)
          have hkn : ¬ (m : Int) < (s.size : Int) := by omega
          replace hN := hid hN
          replace hke := hid hke
          clear hU hcs o0
          go_wp2_with (fail)
          go_ret2
          exact ⟨⟨B.toArray⟩, by rw [hN.out]; rfl, fun b hb => (by rw [hN.out] at hb; cases hb; rfl), hB⟩
end Go.Proofs.YtkmnmigpnbehaaaDoor
