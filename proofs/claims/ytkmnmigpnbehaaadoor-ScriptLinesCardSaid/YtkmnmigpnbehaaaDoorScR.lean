/- The walk of script's Text. -/
import Derived.Test.YtkmnmigpnbehaaaDoorScO
import Derived.Deep.Cut
namespace Go.Proofs.YtkmnmigpnbehaaaDoor
open Go.RowKit Go.Shelf Go.Lib

set_option maxRecDepth 100000 in
set_option maxHeartbeats 2000000 in
theorem Text_any (x : OpB) (w : World) (hx : OkO (op8 x)) (hs : x.s.size ≤ 50000) (hT : STabs w) :
    Calls Tryd.prog 9 #[opV x] w fun e w' => TextE x w.heap.size w e w' := by
  obtain ⟨n₀, hn₀⟩ : ∃ n, w.heap.size = n := ⟨_, rfl⟩
  have hR0 : (fun e w' => TextE x w.heap.size w e w') = fun e w' => TextE x n₀ w e w' := by rw [hn₀]
  rw [hR0]
  clear hR0
  obtain ⟨i0, hi, hi0, hi1, hi2⟩ := info_parts Tryd.infoS
  have a1 := World.alloc_heap_new w (.cells (opC x) 25)
  have hB1 : Below n₀ w (w.alloc (.cells (opC x) 25)) := by rw [← hn₀]; exact (Below.refl _ w).alloc (Nat.le_refl _) _
  have hz1 : (w.alloc (.cells (opC x) 25)).heap.size = n₀ + 1 := by simp [hn₀]
  rw [hn₀] at a1
  obtain ⟨W1, hW1⟩ : ∃ V, w.alloc (.cells (opC x) 25) = V := ⟨_, rfl⟩
  rw [hW1] at a1 hB1 hz1
  have cF := hid (forms_any W1)
  replace hW1 := hid hW1
  unfold opV
  go_enter Tryd.func9, Tryd.ntmps9
  go_wp2_with (fail)
  change Calls _ _ _ (w.alloc (.cells (opC x) 25)) _
  rw [hW1.out]
  refine cF.out.mono ?_
  rintro e W2 ⟨rfl, f0, b2⟩
  rw [hz1] at f0 ⊢
  have a2 := (b2.block n₀ (by omega)).trans a1
  have hB2 := hB1.trans (b2.mono (by omega))
  have hz2 := b2.size
  rw [hz1] at hz2
  clear cF b2 a1 hB1
  go_wp2_with (fail)
  go_loopw [14] (fun i wr => ∃ k : Nat, k ≤ 8 ∧ i = .int .i64 k ∧ (∀ f ∈ formsL.take k, textF (op8 x) f = none) ∧ wr.heap[n₀]? = some (.cells (opC x) 25 (0, 0)) ∧ wr.heap[n₀ + 1]? = some (.cells (formsL.flatMap encFm).toArray 50 (0, 0)) ∧ Below n₀ w wr ∧ n₀ + 2 ≤ wr.heap.size) (fun i _ => 8 - (RowKit.intOf i).toNat)
  case atStart => exact ⟨0, Nat.zero_le _, rfl, by simp, a2, f0, hB2, by have := (Array.getElem?_eq_some_iff.1 f0).1; omega⟩
  case round =>
    obtain ⟨k, hk, rfl, hno, e0, e1, hB, hz⟩ := hrel
    clear a2 f0 hB2 hz2 hz1 hW1
    by_cases hk8 : k < 8
    · have hkI : (k : Int) < 8 := by omega
      obtain ⟨⟨fk, nm, has⟩, hf, hfk, c0, c1, c2⟩ := forms_at hk8
      dsimp only at c0 c1 c2
      obtain ⟨nB, hnB⟩ : ∃ b : ByteArray, (⟨nm.toArray⟩ : ByteArray) = b := ⟨_, rfl⟩
      obtain ⟨hsB, hhB⟩ : ∃ b : ByteArray, (⟨has.toArray⟩ : ByteArray) = b := ⟨_, rfl⟩
      rw [hnB] at c1
      rw [hhB] at c2
      have g0 := cell_blk e1 c0
      have g1 := cell_blk e1 c1
      have g2 := cell_blk e1 c2
      have hnl : nB.data.toList = nm := by rw [← hnB]
      have hhl : hsB.data.toList = has := by rw [← hhB]
      have hhz : hsB.size = has.length := by rw [← hhB]; simp [ByteArray.size]
      have hln : (wr.alloc (.cells #[.int .i64 fk, .string nB, .string hsB] 50)).heap.size = wr.heap.size + 1 := by simp
      have hBa : Below n₀ w (wr.alloc (.cells #[.int .i64 fk, .string nB, .string hsB] 50)) := hB.alloc (by omega) _
      have kA := Kept.alloc 0 wr (.cells #[.int .i64 fk, .string nB, .string hsB] 50)
      have e0' := kA.same _ _ e0 (.inl rfl)
      have e1' := kA.same _ _ e1 (.inl rfl)
      have x0 : (wr.alloc (.cells #[.int .i64 fk, .string nB, .string hsB] 50)).cell? ⟨n₀, 0, none⟩ = some (.int .i64 x.k) := cell_blk (i := 0) e0' rfl
      have hfb := World.alloc_heap_new wr (.cells #[.int .i64 fk, .string nB, .string hsB] 50)
      have htk : formsL.take (k + 1) = formsL.take k ++ [(fk, nm, has)] := by
        rw [List.take_add_one, hfk]; rfl
      have htn : textF (op8 x) (fk, nm, has) = none → ∀ g ∈ formsL.take (k + 1), textF (op8 x) g = none := by
        intro h g hg
        rw [htk] at hg
        rcases List.mem_append.1 hg with hg | hg
        · exact hno g hg
        · rw [List.mem_singleton.1 hg]; exact h
      have hgd := forms_good _ hf
      have hsm := forms_small _ hf
      clear c0 c1 c2 kA
      replace hno := hid hno
      replace htk := hid htk
      replace hfk := hid hfk
      replace htn := hid htn
      replace hgd := hid hgd
      replace hnB := hid hnB
      replace hhB := hid hhB
      replace hnl := hid hnl
      replace hhl := hid hhl
      by_cases hkk : fk = x.k
      · have hkb : (fk == x.k) = true := by rw [hkk]; simp
        have hkb2 : (fk != x.k) = false := by rw [hkk]; simp
        replace hkk := hid hkk
        go_wp2_with (fail)
        obtain ⟨z, hzw⟩ : ∃ n, wr.heap.size = n := ⟨_, rfl⟩
        rw [hzw] at hfb hln hz ⊢
        obtain ⟨Va, hVa⟩ : ∃ V, wr.alloc (.cells #[.int .i64 fk, .string nB, .string hsB] 50) = V := ⟨_, rfl⟩
        rw [hVa] at hfb hln e0' e1' hBa x0 ⊢
        have b0 := World.alloc_heap_new Va (.cells #[.string nB] 9)
        rw [hln] at b0
        have kB := Kept.alloc 0 Va (.cells #[.string nB] 9)
        replace e0' := kB.same _ _ e0' (.inl rfl)
        replace e1' := kB.same _ _ e1' (.inl rfl)
        replace hBa := hBa.alloc (by omega) (.cells #[.string nB] 9)
        have hzc : (Va.alloc (.cells #[.string nB] 9)).heap.size = z + 2 := by rw [World.size_alloc, hln]
        obtain ⟨Vc, hVc⟩ : ∃ V, Va.alloc (.cells #[.string nB] 9) = V := ⟨_, rfl⟩
        rw [hVc] at b0 e0' e1' hBa hzc ⊢
        have hcv := Lib.run_convert_string_bytes (P := Tryd.prog) Vc 9 41 5 hsB (u := .string) Tryd.underlying9 Tryd.underlying41 Tryd.underlying5
        have hc0 : ∀ j, j < hsB.size → (Lib.bytesWorld Vc 5 hsB).cell? ⟨z + 2, j, none⟩ = some (.int .u8 (hsB.data.toList.getD j 0).toNat) := fun j hj => hzc ▸ Lib.bytesWorld_cell Vc 5 hsB j hj
        have q0 := (Lib.bytesWorld_at_old Vc 5 hsB n₀ (by omega)).trans e0'
        have q1 := (Lib.bytesWorld_at_old Vc 5 hsB (n₀ + 1) (by omega)).trans e1'
        have qb := (Lib.bytesWorld_at_old Vc 5 hsB (z + 1) (by omega)).trans b0
        have hb3 := Lib.bytesWorld_at_new Vc 5 hsB
        have hz3 := Lib.bytesWorld_size Vc 5 hsB
        have hB3 := hBa.trans ((below_bytes Vc 5 hsB).mono (by omega))
        rw [hzc] at hcv hz3 hb3
        rw [hcv]
        generalize Lib.bytesWorld Vc 5 hsB = W3 at *
        generalize Lib.bytesCells Vc 5 hsB = CB at *
        generalize grownCap Vc hsB.size 0 5 = cp at *
        replace hVa := hid hVa
        replace hVc := hid hVc
        clear hcv kB b0 e0' e1' hBa hfb hln x0 g0 g1 g2 e0 e1 hzc hVa hVc hB
        rw [hhl.out, hhz] at hc0
        rw [hhz]
        replace hc0 := hid hc0
        have own0 : W3.ownsRow (z + 1) 9 1 (.slice (some ⟨z + 1, 0, none⟩) 1 1) 1 [.string nB] := ⟨rfl, .inr ⟨z + 1, 1, #[.string nB], rfl, Nat.le_refl _, qb, Nat.le_refl _, by decide, rfl, rfl⟩⟩
        clear qb
        go_wp2_with (fail)
        go_loopw [6, 30] (fun tv i wq => ∃ (j : Nat) (L : List ByteArray), j ≤ has.length ∧ i = .int .i64 j ∧ L.map (fun b => b.data.toList) = nm :: (has.take j).map (sayS (op8 x)) ∧ L.length = j + 1 ∧ (∃ v, tv = v ∧ wq.ownsRow (z + 1) 9 1 v (j + 1) (L.flatMap encT)) ∧
          wq.heap[n₀]? = some (.cells (opC x) 25 (0, 0)) ∧ wq.heap[n₀ + 1]? = some (.cells (formsL.flatMap encFm).toArray 50 (0, 0)) ∧ wq.heap[z + 2]? = W3.heap[z + 2]? ∧ Below n₀ w wq ∧ z + 3 ≤ wq.heap.size) (fun _ i _ => has.length - (RowKit.intOf i).toNat)
        case atStart => exact ⟨0, [nB], Nat.zero_le _, rfl, by rw [List.map_cons, hnl.out]; rfl, rfl, ⟨_, rfl, own0⟩, q0, q1, rfl, hB3, by omega⟩
        case round =>
          obtain ⟨j, L, hj, rfl, hmap, hLl, ⟨v0, rfl, o0⟩, p0, p1, p2, hBq, hzq⟩ := hrel
          obtain ⟨pv, cv, rfl, -, -⟩ := owns_shape o0
          clear own0 q0 q1 hB3
          by_cases hjl : j < has.length
          · have hjI : (j : Int) < (has.length : Int) := by omega
            have hcj : wr.cell? ⟨z + 2, j, none⟩ = some (.int .u8 (has[j]).toNat) := by
              have h := hc0.out j hjl
              unfold World.cell? at h ⊢
              rw [show (wr.heap[(⟨z + 2, j, none⟩ : Addr).block]?) = W3.heap[(⟨z + 2, j, none⟩ : Addr).block]? from p2]
              rw [List.getD_eq_getElem?_getD, List.getElem?_eq_getElem hjl] at h
              exact h
            have hcl := hgd.out.2.1 has[j] (List.getElem_mem hjl)
            have htj : has.take (j + 1) = has.take j ++ [has[j]] := by rw [List.take_succ_eq_append_getElem hjl]
            have hmap2 : ∀ SB : ByteArray, SB.data.toList = sayS (op8 x) has[j] → Hid ((L ++ [SB]).map (fun b => b.data.toList) = nm :: (has.take (j + 1)).map (sayS (op8 x))) := by
              intro SB h
              refine hid ?_
              rw [List.map_append, hmap, htj, List.map_append, List.map_cons, List.map_nil, h]
              simp
            obtain ⟨c, hcc⟩ : ∃ c, has[j] = c := ⟨_, rfl⟩
            rw [hcc] at hcj hcl hmap2
            replace hcc := hid hcc
            replace htj := hid htj
            replace hmap := hid hmap
            rw [hb3] at p2
            by_cases h88 : c = 88
            · have hcb : ((c.toNat : Int) == 88) = true := by rw [h88]; rfl
              have y4 : wr.cell? ⟨n₀, 4, none⟩ = some (.string x.s) := cell_blk (i := 4) p0 rfl
              have cH := hid (hex_any x.s wr (by omega))
              have hmap2 := hmap2 ⟨(hexS x.s.data.toList).toArray⟩ (by rw [h88]; rfl)
              obtain ⟨SB, hSB⟩ : ∃ b : ByteArray, (⟨(hexS x.s.data.toList).toArray⟩ : ByteArray) = b := ⟨_, rfl⟩
              rw [hSB] at cH hmap2
              replace hSB := hid hSB
              replace h88 := hid h88
              go_wp2_with (fail)
              refine cH.out.mono ?_
              rintro e V3 ⟨rfl, bV⟩
              have kV := Kept.of_below bV 0
              have o0V := kV.owns o0
              have p0V := kV.same _ _ p0 (.inl rfl)
              have p1V := kV.same _ _ p1 (.inl rfl)
              have p2V := kV.same _ _ p2 (.inl rfl)
              have hBV := hBq.trans (bV.mono (by omega))
              have hzV := Nat.le_trans hzq bV.size
              clear kV bV cH y4 hcj
              have o0a := o0V.alloc (.cells #[.string SB] 9)
              have sla : Sl (V3.alloc (.cells #[.string SB] 9)) 1 encT (.slice (some ⟨V3.heap.size, 0, none⟩) 1 1) [SB] := sl_of_block (l := [SB]) (World.alloc_heap_new V3 _) rfl (fun _ _ => rfl) (Nat.le_refl 1) (by decide)
              have p0a := (Kept.alloc 0 V3 (.cells #[.string SB] 9)).same _ _ p0V (.inl rfl)
              have p1a := (Kept.alloc 0 V3 (.cells #[.string SB] 9)).same _ _ p1V (.inl rfl)
              have p2a := (Kept.alloc 0 V3 (.cells #[.string SB] 9)).same _ _ p2V (.inl rfl)
              have hBVa : Below n₀ w (V3.alloc (.cells #[.string SB] 9)) := hBV.alloc (by omega) _
              have hza : (V3.alloc (.cells #[.string SB] 9)).heap.size = V3.heap.size + 1 := by simp
              go_wp2_with (at_builtin; go_must (first
                | (refine wpList_append_sl rfl _ _ 44 rfl (z + 1) 9 i0 (.string ⟨#[]⟩) 1 16 Tryd.underlying44 hi hi0 hi1 hi2 rfl (by decide) _ _ _ rfl o0a encT _ [SB] rfl sla (fun x _ => ⟨rfl, fun u hu => by obtain rfl := List.mem_singleton.1 hu; rfl⟩) (by unfold maxLen; simp only [List.length_cons, List.length_nil]; omega) (by simp only [List.length_cons, List.length_nil]; omega) (by omega) ?_
                   intro v2 W5 own2 grow2 _)))
              rw [← List.flatMap_append] at own2
              have hz5 := grow2.size
              rw [hza] at hz5
              refine ⟨⟨j + 1, L ++ [SB], by omega, by go_num, hmap2.out, by rw [List.length_append, hLl]; rfl, ⟨_, rfl, own2⟩, grown_blk o0a grow2 (by omega) p0a, grown_blk o0a grow2 (by omega) p1a, (grow2.block (z + 2) (by omega) (fun e => own_ne o0a p2a (by decide) e.symm)).trans (p2a.trans hb3.symm), hBVa.grown grow2 (by omega) (fun _ e => Nat.le_trans (show n₀ ≤ z + 1 by omega) (own_baseS o0a e)), by omega⟩, by simp [RowKit.intOf]; omega⟩
            · have hcb : ((c.toNat : Int) == 88) = false := by
                simp only [beq_eq_false_iff_ne, ne_eq]
                intro h
                exact h88 (UInt8.toNat_inj.1 (by show c.toNat = 88; omega))
              have hcl2 := hcl.resolve_left h88
              have cF2 := hid (field_any n₀ 0 c hcl2 wr)
              simp only [Nat.zero_add] at cF2
              have y5 := cell_blk (i := offF c) p0 (opC_get hcl2 x)
              have hrg := hx c hcl2
              have cI := hid (Tryd.strconv_Itoa (getF (op8 x) c) hrg.1 hrg.2 wr (hT.below (by rw [hn₀]; exact hBq)).1)
              have hmap2 := hmap2 ⟨(Lib.itoa (getF (op8 x) c)).toArray⟩ (by unfold sayS; rw [if_neg h88])
              obtain ⟨SB, hSB⟩ : ∃ b : ByteArray, (⟨(Lib.itoa (getF (op8 x) c)).toArray⟩ : ByteArray) = b := ⟨_, rfl⟩
              rw [hSB] at cI hmap2
              replace hSB := hid hSB
              replace h88 := hid h88
              generalize getF (op8 x) c = gv at *
              generalize offF c = og at *
              go_wp2_with (fail)
              refine cF2.out.mono ?_
              rintro e V2 ⟨rfl, rfl⟩
              go_wp2_with (fail)
              refine cI.out.mono ?_
              rintro e V3 ⟨rfl, kk, os, hV3⟩
              have bV : Below V2.heap.size V2 V3 := by rw [hV3]; exact Lib.below_grow _ V2 (Nat.le_refl _) kk os
              clear hV3
              have kV := Kept.of_below bV 0
              have o0V := kV.owns o0
              have p0V := kV.same _ _ p0 (.inl rfl)
              have p1V := kV.same _ _ p1 (.inl rfl)
              have p2V := kV.same _ _ p2 (.inl rfl)
              have hBV := hBq.trans (bV.mono (by omega))
              have hzV := Nat.le_trans hzq bV.size
              clear kV bV cF2 cI y5 hcj
              have o0a := o0V.alloc (.cells #[.string SB] 9)
              have sla : Sl (V3.alloc (.cells #[.string SB] 9)) 1 encT (.slice (some ⟨V3.heap.size, 0, none⟩) 1 1) [SB] := sl_of_block (l := [SB]) (World.alloc_heap_new V3 _) rfl (fun _ _ => rfl) (Nat.le_refl 1) (by decide)
              have p0a := (Kept.alloc 0 V3 (.cells #[.string SB] 9)).same _ _ p0V (.inl rfl)
              have p1a := (Kept.alloc 0 V3 (.cells #[.string SB] 9)).same _ _ p1V (.inl rfl)
              have p2a := (Kept.alloc 0 V3 (.cells #[.string SB] 9)).same _ _ p2V (.inl rfl)
              have hBVa : Below n₀ w (V3.alloc (.cells #[.string SB] 9)) := hBV.alloc (by omega) _
              have hza : (V3.alloc (.cells #[.string SB] 9)).heap.size = V3.heap.size + 1 := by simp
              go_wp2_with (at_builtin; go_must (first
                | (refine wpList_append_sl rfl _ _ 44 rfl (z + 1) 9 i0 (.string ⟨#[]⟩) 1 16 Tryd.underlying44 hi hi0 hi1 hi2 rfl (by decide) _ _ _ rfl o0a encT _ [SB] rfl sla (fun x _ => ⟨rfl, fun u hu => by obtain rfl := List.mem_singleton.1 hu; rfl⟩) (by unfold maxLen; simp only [List.length_cons, List.length_nil]; omega) (by simp only [List.length_cons, List.length_nil]; omega) (by omega) ?_
                   intro v2 W5 own2 grow2 _)))
              rw [← List.flatMap_append] at own2
              have hz5 := grow2.size
              rw [hza] at hz5
              refine ⟨⟨j + 1, L ++ [SB], by omega, by go_num, hmap2.out, by rw [List.length_append, hLl]; rfl, ⟨_, rfl, own2⟩, grown_blk o0a grow2 (by omega) p0a, grown_blk o0a grow2 (by omega) p1a, (grow2.block (z + 2) (by omega) (fun e => own_ne o0a p2a (by decide) e.symm)).trans (p2a.trans hb3.symm), hBVa.grown grow2 (by omega) (fun _ e => Nat.le_trans (show n₀ ≤ z + 1 by omega) (own_baseS o0a e)), by omega⟩, by simp [RowKit.intOf]; omega⟩
          · obtain rfl : j = has.length := by omega
            rw [List.take_length] at hmap
            have hwo : L.map (fun b => b.data.toList) = wordsOf (fk, nm, has) (op8 x) := hmap
            have hne : L ≠ [] := by rintro rfl; simp at hLl
            obtain ⟨bb, bo, cap, he2, hcap, -, hcs⟩ := (sl_of_owns (enc := encT) (fun _ _ => rfl) (by rw [hLl]; exact o0)).open hne
            simp only [Value.slice.injEq] at he2
            obtain ⟨rfl, -, rfl⟩ := he2
            have hcl3 : ∀ (j : Nat) (x : ByteArray), L[j]? = some x → wr.cell? ⟨bb, bo + j, none⟩ = some (.string x) := by
              intro j x hj
              have := rangeAt_one (hcs j x hj)
              rwa [Nat.mul_one] at this
            have hbb : bb < wr.heap.size := by
              have h := hcl3 0 _ (List.getElem?_eq_getElem (show 0 < L.length by omega))
              by_cases hb : bb < wr.heap.size
              · exact hb
              · rw [World.cell?, Array.getElem?_eq_none (show wr.heap.size ≤ (⟨bb, bo + 0, none⟩ : Addr).block from Nat.le_of_not_lt hb)] at h; cases h
            have hsl := spell_len hf hx
            have hsz : (op8 x).src.length = x.s.size := size8 x.s
            rw [hsz] at hsl
            have hjn : Lib.join (L.map (fun b => b.data.toList)) [32] = spellS (fk, nm, has) (op8 x) := by rw [join_B, hwo]; rfl
            have cJ := Tryd.strings_Join bb bo cv L ⟨#[32]⟩ wr hcl3 hbb (by omega) hcap (by
              show (Lib.join (L.map (fun b => b.data.toList)) [32]).length ≤ _
              rw [hjn]; omega)
            have hsep : (⟨#[32]⟩ : ByteArray).data.toList = [32] := rfl
            rw [hsep, hjn, hLl] at cJ
            obtain ⟨tB, htB⟩ : ∃ b : ByteArray, (⟨(spellS (fk, nm, has) (op8 x)).toArray⟩ : ByteArray) = b := ⟨_, rfl⟩
            have htl : tB.data.toList = spellS (fk, nm, has) (op8 x) := by rw [← htB]
            have htz : tB.size = (spellS (fk, nm, has) (op8 x)).length := by rw [← htl, size8]
            rw [htB] at cJ
            replace cJ := hid cJ
            replace htB := hid htB
            replace htl := hid htl
            replace hwo := hid hwo
            replace hjn := hid hjn
            replace hcl3 := hid hcl3
            clear hmap hcs hsep hne hnB hhB
            go_wp2_with (fail)
            refine cJ.out.mono ?_
            rintro e V4 ⟨rfl, b4⟩
            have hB4 := hBq.trans (b4.mono (by omega))
            have cL := hid (Line_any tB V4 (by omega) (hT.below (by rw [hn₀]; exact hB4)))
            have k4 := Kept.of_below b4 0
            have r0 := k4.same _ _ p0 (.inl rfl)
            have r1 := k4.same _ _ p1 (.inl rfl)
            have hz4 := b4.size
            clear cJ k4 b4 o0 hcl3 p0 p1 p2
            go_wp2_with (fail)
            refine cL.out.mono ?_
            rintro e V5 ⟨y, rfl, hy, b5⟩
            have k5 := Kept.of_below b5 0
            replace r0 := k5.same _ _ r0 (.inl rfl)
            replace r1 := k5.same _ _ r1 (.inl rfl)
            have hB5 := hB4.trans (b5.mono (by omega))
            have hz5 := b5.size
            clear cL k5 b5
            obtain ⟨yk, yr, yo, yn, ys, yw, yh, yt, yc, yi⟩ := y
            dsimp only [opV, opC]
            have k6 := Kept.alloc 0 V5 (.cells #[.int .i64 yk, .int .i64 yr, .int .i64 yo, .int .i64 yn, .string ys, .int .i64 yw, .int .i64 yh, .int .i64 yt, .int .i64 yc, .int .i64 yi] 25)
            replace r0 := k6.same _ _ r0 (.inl rfl)
            replace r1 := k6.same _ _ r1 (.inl rfl)
            have ry := World.alloc_heap_new V5 (.cells #[.int .i64 yk, .int .i64 yr, .int .i64 yo, .int .i64 yn, .string ys, .int .i64 yw, .int .i64 yh, .int .i64 yt, .int .i64 yc, .int .i64 yi] 25)
            have hB6 := hB5.alloc (by omega) (.cells #[.int .i64 yk, .int .i64 yr, .int .i64 yo, .int .i64 yn, .string ys, .int .i64 yw, .int .i64 yh, .int .i64 yt, .int .i64 yc, .int .i64 yi] 25)
            have hz6 : (V5.alloc (.cells #[.int .i64 yk, .int .i64 yr, .int .i64 yo, .int .i64 yn, .string ys, .int .i64 yw, .int .i64 yh, .int .i64 yt, .int .i64 yc, .int .i64 yi] 25)).heap.size = V5.heap.size + 1 := by simp
            clear k6
            rw [htl.out] at hy ⊢
            cases hli : lineS (spellS (fk, nm, has) (op8 x)) with
            | none =>
              have hnn : textF (op8 x) (fk, nm, has) = none := by
                unfold textF
                rw [if_neg (fun h => by rw [hli] at h; cases h.2)]
              replace hnn := hid hnn
              replace hli := hid hli
              clear hy
              simp only [Option.isSome_none, Bool.false_eq_true, if_false]
              go_wp2_with (fail)
              refine ⟨?o1, ?o2⟩
              case o2 => simp [RowKit.intOf]; omega
              case o1 =>
                (repeat apply Exists.intro)
                refine ⟨?rel, rfl⟩
                exact ⟨k + 1, by omega, by go_num, htn.out hnn.out, r0, r1, hB6, by omega⟩
            | some zz =>
              have hyz : op8 ⟨yk, yr, yo, yn, ys, yw, yh, yt, yc, yi⟩ = zz := by rw [hli] at hy; exact hy
              replace hli := hid hli
              replace hyz := hid hyz
              clear hy
              have cE := hid (Same_any x ⟨yk, yr, yo, yn, ys, yw, yh, yt, yc, yi⟩ (V5.alloc (.cells #[.int .i64 yk, .int .i64 yr, .int .i64 yo, .int .i64 yn, .string ys, .int .i64 yw, .int .i64 yh, .int .i64 yt, .int .i64 yc, .int .i64 yi] 25)))
              simp only [Option.isSome_some, if_true]
              have xx0 : (V5.alloc (.cells #[.int .i64 yk, .int .i64 yr, .int .i64 yo, .int .i64 yn, .string ys, .int .i64 yw, .int .i64 yh, .int .i64 yt, .int .i64 yc, .int .i64 yi] 25)).cell? ⟨n₀, 0, none⟩ = some (.int .i64 x.k) := cell_blk (i := 0) r0 rfl
              have xx1 : (V5.alloc (.cells #[.int .i64 yk, .int .i64 yr, .int .i64 yo, .int .i64 yn, .string ys, .int .i64 yw, .int .i64 yh, .int .i64 yt, .int .i64 yc, .int .i64 yi] 25)).cell? ⟨n₀, 1, none⟩ = some (.int .i64 x.r) := cell_blk (i := 1) r0 rfl
              have xx2 : (V5.alloc (.cells #[.int .i64 yk, .int .i64 yr, .int .i64 yo, .int .i64 yn, .string ys, .int .i64 yw, .int .i64 yh, .int .i64 yt, .int .i64 yc, .int .i64 yi] 25)).cell? ⟨n₀, 2, none⟩ = some (.int .i64 x.o) := cell_blk (i := 2) r0 rfl
              have xx3 : (V5.alloc (.cells #[.int .i64 yk, .int .i64 yr, .int .i64 yo, .int .i64 yn, .string ys, .int .i64 yw, .int .i64 yh, .int .i64 yt, .int .i64 yc, .int .i64 yi] 25)).cell? ⟨n₀, 3, none⟩ = some (.int .i64 x.n) := cell_blk (i := 3) r0 rfl
              have xx4 : (V5.alloc (.cells #[.int .i64 yk, .int .i64 yr, .int .i64 yo, .int .i64 yn, .string ys, .int .i64 yw, .int .i64 yh, .int .i64 yt, .int .i64 yc, .int .i64 yi] 25)).cell? ⟨n₀, 4, none⟩ = some (.string x.s) := cell_blk (i := 4) r0 rfl
              have xx5 : (V5.alloc (.cells #[.int .i64 yk, .int .i64 yr, .int .i64 yo, .int .i64 yn, .string ys, .int .i64 yw, .int .i64 yh, .int .i64 yt, .int .i64 yc, .int .i64 yi] 25)).cell? ⟨n₀, 5, none⟩ = some (.int .i64 x.w) := cell_blk (i := 5) r0 rfl
              have xx6 : (V5.alloc (.cells #[.int .i64 yk, .int .i64 yr, .int .i64 yo, .int .i64 yn, .string ys, .int .i64 yw, .int .i64 yh, .int .i64 yt, .int .i64 yc, .int .i64 yi] 25)).cell? ⟨n₀, 6, none⟩ = some (.int .i64 x.h) := cell_blk (i := 6) r0 rfl
              have xx7 : (V5.alloc (.cells #[.int .i64 yk, .int .i64 yr, .int .i64 yo, .int .i64 yn, .string ys, .int .i64 yw, .int .i64 yh, .int .i64 yt, .int .i64 yc, .int .i64 yi] 25)).cell? ⟨n₀, 7, none⟩ = some (.int .i64 x.t) := cell_blk (i := 7) r0 rfl
              have xx8 : (V5.alloc (.cells #[.int .i64 yk, .int .i64 yr, .int .i64 yo, .int .i64 yn, .string ys, .int .i64 yw, .int .i64 yh, .int .i64 yt, .int .i64 yc, .int .i64 yi] 25)).cell? ⟨n₀, 8, none⟩ = some (.int .i64 x.c) := cell_blk (i := 8) r0 rfl
              have xx9 : (V5.alloc (.cells #[.int .i64 yk, .int .i64 yr, .int .i64 yo, .int .i64 yn, .string ys, .int .i64 yw, .int .i64 yh, .int .i64 yt, .int .i64 yc, .int .i64 yi] 25)).cell? ⟨n₀, 9, none⟩ = some (.int .i64 x.i) := cell_blk (i := 9) r0 rfl
              have yy0 : (V5.alloc (.cells #[.int .i64 yk, .int .i64 yr, .int .i64 yo, .int .i64 yn, .string ys, .int .i64 yw, .int .i64 yh, .int .i64 yt, .int .i64 yc, .int .i64 yi] 25)).cell? ⟨V5.heap.size, 0, none⟩ = some (.int .i64 yk) := cell_blk (i := 0) ry rfl
              have yy1 : (V5.alloc (.cells #[.int .i64 yk, .int .i64 yr, .int .i64 yo, .int .i64 yn, .string ys, .int .i64 yw, .int .i64 yh, .int .i64 yt, .int .i64 yc, .int .i64 yi] 25)).cell? ⟨V5.heap.size, 1, none⟩ = some (.int .i64 yr) := cell_blk (i := 1) ry rfl
              have yy2 : (V5.alloc (.cells #[.int .i64 yk, .int .i64 yr, .int .i64 yo, .int .i64 yn, .string ys, .int .i64 yw, .int .i64 yh, .int .i64 yt, .int .i64 yc, .int .i64 yi] 25)).cell? ⟨V5.heap.size, 2, none⟩ = some (.int .i64 yo) := cell_blk (i := 2) ry rfl
              have yy3 : (V5.alloc (.cells #[.int .i64 yk, .int .i64 yr, .int .i64 yo, .int .i64 yn, .string ys, .int .i64 yw, .int .i64 yh, .int .i64 yt, .int .i64 yc, .int .i64 yi] 25)).cell? ⟨V5.heap.size, 3, none⟩ = some (.int .i64 yn) := cell_blk (i := 3) ry rfl
              have yy4 : (V5.alloc (.cells #[.int .i64 yk, .int .i64 yr, .int .i64 yo, .int .i64 yn, .string ys, .int .i64 yw, .int .i64 yh, .int .i64 yt, .int .i64 yc, .int .i64 yi] 25)).cell? ⟨V5.heap.size, 4, none⟩ = some (.string ys) := cell_blk (i := 4) ry rfl
              have yy5 : (V5.alloc (.cells #[.int .i64 yk, .int .i64 yr, .int .i64 yo, .int .i64 yn, .string ys, .int .i64 yw, .int .i64 yh, .int .i64 yt, .int .i64 yc, .int .i64 yi] 25)).cell? ⟨V5.heap.size, 5, none⟩ = some (.int .i64 yw) := cell_blk (i := 5) ry rfl
              have yy6 : (V5.alloc (.cells #[.int .i64 yk, .int .i64 yr, .int .i64 yo, .int .i64 yn, .string ys, .int .i64 yw, .int .i64 yh, .int .i64 yt, .int .i64 yc, .int .i64 yi] 25)).cell? ⟨V5.heap.size, 6, none⟩ = some (.int .i64 yh) := cell_blk (i := 6) ry rfl
              have yy7 : (V5.alloc (.cells #[.int .i64 yk, .int .i64 yr, .int .i64 yo, .int .i64 yn, .string ys, .int .i64 yw, .int .i64 yh, .int .i64 yt, .int .i64 yc, .int .i64 yi] 25)).cell? ⟨V5.heap.size, 7, none⟩ = some (.int .i64 yt) := cell_blk (i := 7) ry rfl
              have yy8 : (V5.alloc (.cells #[.int .i64 yk, .int .i64 yr, .int .i64 yo, .int .i64 yn, .string ys, .int .i64 yw, .int .i64 yh, .int .i64 yt, .int .i64 yc, .int .i64 yi] 25)).cell? ⟨V5.heap.size, 8, none⟩ = some (.int .i64 yc) := cell_blk (i := 8) ry rfl
              have yy9 : (V5.alloc (.cells #[.int .i64 yk, .int .i64 yr, .int .i64 yo, .int .i64 yn, .string ys, .int .i64 yw, .int .i64 yh, .int .i64 yt, .int .i64 yc, .int .i64 yi] 25)).cell? ⟨V5.heap.size, 9, none⟩ = some (.int .i64 yi) := cell_blk (i := 9) ry rfl
              go_wp2_with (fail)
              refine cE.out.mono ?_
              rintro e V7 ⟨rfl, b7⟩
              have hB7 := hB6.trans (b7.mono (by omega))
              have k7 := Kept.of_below b7 0
              replace r0 := k7.same _ _ r0 (.inl rfl)
              replace r1 := k7.same _ _ r1 (.inl rfl)
              have hz7 := b7.size
              have hsi := sameB_iff x ⟨yk, yr, yo, yn, ys, yw, yh, yt, yc, yi⟩
              cases hsm : sameB x ⟨yk, yr, yo, yn, ys, yw, yh, yt, yc, yi⟩ with
              | true =>
                rw [hsm] at hsi
                have hxy : op8 x = zz := (hsi.1 rfl).trans hyz.out
                have hT2 : textF (op8 x) (fk, nm, has) = some (spellS (fk, nm, has) (op8 x)) := by
                  unfold textF
                  rw [if_pos ⟨hkk.out, by rw [hli.out, hxy]⟩]
                have hTO : textO (op8 x) = some (spellS (fk, nm, has) (op8 x)) := by
                  unfold textO
                  have h1 : formsL = formsL.take k ++ formsL.drop k := (List.take_append_drop k formsL).symm
                  have h2 : formsL.drop k = (fk, nm, has) :: formsL.drop (k + 1) := by
                    obtain ⟨hlt, he⟩ := List.getElem?_eq_some_iff.1 hfk.out
                    rw [← he]; exact List.drop_eq_getElem_cons hlt
                  rw [h1, List.findSome?_append, List.findSome?_eq_none_iff.2 (fun f hf => hno.out f hf), h2, List.findSome?_cons_of_isSome (by rw [hT2]; rfl), hT2]
                  rfl
                replace hT2 := hid hT2
                replace hTO := hid hTO
                clear hsi hxy
                go_wp2_with (fail)
                go_ret2
                refine ⟨?_, hB7⟩
                rw [hTO.out]
                simp only [Option.getD_some, Option.isSome_some, if_true, htB.out]
                rfl
              | false =>
                rw [hsm] at hsi
                have hnn : textF (op8 x) (fk, nm, has) = none := by
                  unfold textF
                  rw [if_neg]
                  rintro ⟨-, h2⟩
                  rw [hli.out] at h2
                  have h3 := Option.some.inj h2
                  have h4 := hsi.2 (by rw [hyz.out, h3])
                  cases h4
                replace hnn := hid hnn
                clear hsi
                go_wp2_with (fail)
                refine ⟨?o1, ?o2⟩
                case o2 => simp [RowKit.intOf]; omega
                case o1 =>
                  (repeat apply Exists.intro)
                  refine ⟨?rel2, rfl⟩
                  exact ⟨k + 1, by omega, by go_num, htn.out hnn.out, r0, r1, hB7, by omega⟩
      · have hkb : (fk == x.k) = false := by rw [beq_eq_false_iff_ne]; exact hkk
        have hkb2 : (fk != x.k) = true := by rw [bne_iff_ne]; exact hkk
        have hnn : textF (op8 x) (fk, nm, has) = none := by unfold textF; rw [if_neg (fun h => hkk h.1)]
        replace hkk := hid hkk
        replace hnn := hid hnn
        replace hf := hid hf
        go_wp2_with (fail)
        refine ⟨⟨k + 1, by omega, by go_num, htn.out hnn.out, e0', e1', hBa, by rw [hln]; omega⟩, by simp [RowKit.intOf]; omega⟩
    · obtain rfl : k = 8 := by omega
      have hL : textO (op8 x) = none := List.findSome?_eq_none_iff.2 fun f hf => hno f hf
      replace hno := hid hno
      replace hL := hid hL
      go_wp2_with (fail)
      go_ret2
      refine ⟨by rw [hL.out]; rfl, hB⟩
end Go.Proofs.YtkmnmigpnbehaaaDoor
