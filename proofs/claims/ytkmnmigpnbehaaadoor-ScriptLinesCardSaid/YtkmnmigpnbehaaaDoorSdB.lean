/- The walk of the reference's Text (printed by gen_sdb.py). -/
import Derived.Test.YtkmnmigpnbehaaaDoorSdA
import Derived.Test.YtkmnmigpnbehaaaDoorScY
import Derived.Deep.RegionHeld3
import Derived.Deep.DeepCutAuto
import Derived.Deep.CutBlock
import Derived.Deep.QuietTactic
namespace Go.Proofs.YtkmnmigpnbehaaaDoor
open Go.RowKit Go.Shelf Go.Lib

theorem sp1 : (⟨#[32]⟩ : ByteArray).size = 1 := rfl
theorem decS_short (n : Int) (h1 : -9223372036854775808 ≤ n) (h : n ≤ 9223372036854775807) : (decS n).length ≤ 21 := by
  unfold decS
  split
  · simp
  · have := Lib.itoa_length_le n h1 h
    rw [show n = ((n.toNat : Nat) : Int) by omega, itoa_nonneg] at this
    exact this
theorem DecDB : ∃ DB : Int → ByteArray, (∀ n, (DB n).data.toList = decS n) ∧ (∀ n, -9223372036854775808 ≤ n → n ≤ 9223372036854775807 → ((DB n).size : Int) ≤ 21) ∧ Hid (∀ n, -9223372036854775808 ≤ n → n ≤ 9223372036854775807 → ∀ w, Calls Tryd.prog 12 #[.int .i64 n] w fun e w' => e = .returned (.string (DB n)) ∧ Below w.heap.size w w') := by
  refine ⟨fun n => ⟨(decS n).toArray⟩, fun _ => rfl, fun n h1 h => ?_, hid fun n _ h w => DecS_any n (by omega) w⟩
  have : (⟨(decS n).toArray⟩ : ByteArray).size = (decS n).length := rfl
  rw [this]
  have := decS_short n h1 h
  omega
theorem HexD (s : ByteArray) (h : s.size ≤ 240) : ∃ D : ByteArray, D.data.toList = hexS s.data.toList ∧ (D.size : Int) ≤ 481 ∧ Hid (∀ w, Calls Tryd.prog 13 #[.string s] w fun e w' => e = .returned (.string D) ∧ Below w.heap.size w w') := by
  refine ⟨⟨(hexS s.data.toList).toArray⟩, rfl, ?_, hid fun w => rHex_any s w (by omega)⟩
  have e : (⟨(hexS s.data.toList).toArray⟩ : ByteArray).size = (hexS s.data.toList).length := rfl
  rw [e]
  have hz : s.data.toList.length = s.size := size8 s
  by_cases h0 : s.data.toList = []
  · rw [h0]; decide
  · unfold hexS
    rw [if_neg h0, hx_len]
    omega

theorem eq_of_form {f g : Int × L8 × L8} (hf : f ∈ formsL) (h : f.1 = g.1) (hg : g ∈ formsL := by decide +kernel) : f = g := forms_apart f hf g hg (.inl h)

set_option maxRecDepth 100000 in
set_option maxHeartbeats 4000000 in
theorem rText_any (x : OpB) (w : World) (hx : OkO (op8 x)) (hs : x.s.size ≤ 50000) :
    Calls Tryd.prog 10 #[opV x] w fun e w' => e = .returned (.string ⟨((textO (op8 x)).getD []).toArray⟩) ∧ Below w.heap.size w w' := by
  obtain ⟨n₀, hn₀⟩ : ∃ n, w.heap.size = n := ⟨_, rfl⟩
  have a1 := World.alloc_heap_new w (.cells (opC x) 25)
  have B1 : Below w.heap.size w (w.alloc (.cells (opC x) 25)) := (Below.refl _ w).alloc (Nat.le_refl _) _
  have C1 := B1
  rw [hn₀] at a1 B1
  have x0 : (w.alloc (.cells (opC x) 25)).cell? ⟨n₀, 0, none⟩ = some (.int .i64 x.k) := cell_blk (i := 0) a1 rfl
  have x4 : (w.alloc (.cells (opC x) 25)).cell? ⟨n₀, 4, none⟩ = some (.string x.s) := cell_blk (i := 4) a1 rfl
  unfold opV
  by_cases h1 : x.k < 1
  · rw [kind_none (x := op8 x) (.inl h1)]
    go_enter Tryd.func10, Tryd.ntmps10
    go_wp2_with (fail)
    go_ret
    first | exact ⟨rfl, C1⟩ | exact ⟨rfl, B1⟩
  · by_cases h8 : 8 < x.k
    · rw [kind_none (x := op8 x) (.inr h8)]
      go_enter Tryd.func10, Tryd.ntmps10
      go_wp2_with (fail)
      go_ret
      first | exact ⟨rfl, C1⟩ | exact ⟨rfl, B1⟩
    · by_cases h240 : (240 : Int) < x.s.size
      · rw [long_none (x := op8 x) (by show 240 < x.s.data.toList.length; rw [size8]; omega)]
        go_enter Tryd.func10, Tryd.ntmps10
        go_wp2_with (fail)
        go_ret
        first | exact ⟨rfl, C1⟩ | exact ⟨rfl, B1⟩
      · clear C1
        obtain ⟨kk, hk⟩ : ∃ kk : Nat, x.k = kk := ⟨x.k.toNat, by omega⟩
        have hk1 : 1 ≤ kk := by omega
        have hk8 : kk ≤ 8 := by omega
        have hkI : (kk : Int) < 9 := by omega
        have hkN : kk < 9 := by omega
        clear h1 h8 hs
        obtain ⟨f, hf, hfk, -⟩ := name_form hk1 hk8
        rw [← ans_eq hf (show f.1 = (op8 x).kind by rw [hfk]; exact hk.symm)]
        obtain ⟨hr1, hr2⟩ := hx 82 (by decide)
        replace hr1 : -9223372036854775808 ≤ x.r := hr1
        replace hr2 : x.r ≤ 9223372036854775807 := hr2
        obtain ⟨ho1, ho2⟩ := hx 79 (by decide)
        replace ho1 : -9223372036854775808 ≤ x.o := ho1
        replace ho2 : x.o ≤ 9223372036854775807 := ho2
        obtain ⟨hn1, hn2⟩ := hx 78 (by decide)
        replace hn1 : -9223372036854775808 ≤ x.n := hn1
        replace hn2 : x.n ≤ 9223372036854775807 := hn2
        obtain ⟨hw1, hw2⟩ := hx 87 (by decide)
        replace hw1 : -9223372036854775808 ≤ x.w := hw1
        replace hw2 : x.w ≤ 9223372036854775807 := hw2
        obtain ⟨hh1, hh2⟩ := hx 72 (by decide)
        replace hh1 : -9223372036854775808 ≤ x.h := hh1
        replace hh2 : x.h ≤ 9223372036854775807 := hh2
        obtain ⟨ht1, ht2⟩ := hx 84 (by decide)
        replace ht1 : -9223372036854775808 ≤ x.t := ht1
        replace ht2 : x.t ≤ 9223372036854775807 := ht2
        obtain ⟨hc1, hc2⟩ := hx 67 (by decide)
        replace hc1 : -9223372036854775808 ≤ x.c := hc1
        replace hc2 : x.c ≤ 9223372036854775807 := hc2
        obtain ⟨hi1, hi2⟩ := hx 73 (by decide)
        replace hi1 : -9223372036854775808 ≤ x.i := hi1
        replace hi2 : x.i ≤ 9223372036854775807 := hi2
        have hz1 : (w.alloc (.cells (opC x) 25)).heap.size = n₀ + 1 := by simp [hn₀]
        replace x0 : (w.alloc (.cells (opC x) 25)).cell? ⟨n₀, 0, none⟩ = some (.int .i64 kk) := by rw [x0, hk]
        go_enter Tryd.func10, Tryd.ntmps10
        go_upto_region 3 with (fail)
        go_cut [3] (fun c wx => c = .string ⟨(nameOf kk).toArray⟩ ∧ wx.heap[n₀]? = some (.cells (opC x) 25 (0, 0)) ∧ Below (n₀ + 1) (w.alloc (.cells (opC x) 25)) wx)
        case first =>
          refine wp_region_any (by kernel_rfl) ?_
          try (change wpAny _ _ _ _ _ _ _ (World.drew _))
          refine wpAny_take (i := 1) (oi := ⟨some 21, _, _, _, _, _⟩) (v := ?_) rfl (by kernel_rfl) (by kernel_rfl) (by kernel_rfl) (fun _ _ _ h => h) (Or.inl ⟨by rfl, ?_⟩) ?_
          rotate_left
          · intro w; go_simp <;> with_reducible rfl
          simp only [Act.put, List.setIfInBounds_toArray, List.set_cons_zero, List.set_cons_succ]
          refine wpAny_ready (rs := [0, 2]) (by kernel_rfl) (by simp) ?_
          refine AllReady.cons rfl (fun K hK => ?_) ?_
          · go_simp
            refine (verbs_any _).mono ?_
            rintro e Va ⟨rfl, hva, bva⟩
            have gva : Va.cell? ⟨n₀ + 1, kk, none⟩ = some (.string ⟨(nameOf kk).toArray⟩) := cell_blk (show Va.heap[n₀ + 1]? = _ from hz1 ▸ hva) (verbs_at hk8)
            have kva := (Kept.of_below bva 0).same _ _ (show (w.alloc (.cells (opC x) 25)).drew.heap[n₀]? = _ from a1) (.inl rfl)
            have xva : Va.cell? ⟨n₀, 0, none⟩ = some (.int .i64 kk) := by rw [← hk]; exact cell_blk (i := 0) kva rfl
            have BVa := ((Below.refl _ (w.alloc (.cells (opC x) 25))).drewN 1).trans bva
            clear hva bva
            first | refine hK _ _ ?_ | refine ⟨trivial, hK _ _ ?_⟩ | refine ⟨fun _ _ => trivial, hK _ _ ?_⟩
            clear hK K
            refine wpAny_ready (rs := [2]) (by kernel_rfl) (by simp) ?_
            refine AllReady.cons rfl (fun K hK => ?_) AllReady.nil
            go_simp
            first | refine hK _ _ ?_ | refine ⟨trivial, hK _ _ ?_⟩ | refine ⟨fun _ _ => trivial, hK _ _ ?_⟩
            clear hK K
            refine wpAny_take (i := 3) (oi := ⟨some 23, _, _, _, _, _⟩) (v := ?_) rfl (by kernel_rfl) (by kernel_rfl) (by kernel_rfl) (fun _ _ _ h => h) (Or.inl ⟨by rfl, ?_⟩) ?_
            rotate_left
            · intro w; go_simp <;> with_reducible rfl
            simp only [Act.put, List.setIfInBounds_toArray, List.set_cons_zero, List.set_cons_succ]
            refine wpAny_ready (rs := [4]) (by kernel_rfl) (by simp) ?_
            refine AllReady.cons rfl (fun K hK => ?_) AllReady.nil
            go_simp
            first | refine hK _ _ ?_ | refine ⟨trivial, hK _ _ ?_⟩ | refine ⟨fun _ _ => trivial, hK _ _ ?_⟩
            clear hK K
            refine wpAny_take (i := 5) (oi := ⟨some 3, _, _, _, _, _⟩) (v := ?_) rfl (by kernel_rfl) (by kernel_rfl) (by kernel_rfl) (fun _ _ _ h => h) (Or.inl ⟨by rfl, ?_⟩) ?_
            rotate_left
            · intro w; go_simp <;> with_reducible rfl
            simp only [Act.put, List.setIfInBounds_toArray, List.set_cons_zero, List.set_cons_succ]
            refine wpAny_done (by kernel_rfl) ?_ _
            go_wp2_with (fail)
            go_meet
            case rel => exact ⟨rfl, kva, by rw [← hz1]; exact BVa⟩
          refine AllReady.cons rfl (fun K hK => ?_) AllReady.nil
          go_simp
          first | refine hK _ _ ?_ | refine ⟨trivial, hK _ _ ?_⟩ | refine ⟨fun _ _ => trivial, hK _ _ ?_⟩
          clear hK K
          refine wpAny_ready (rs := [0]) (by kernel_rfl) (by simp) ?_
          refine AllReady.cons rfl (fun K hK => ?_) AllReady.nil
          go_simp
          refine (verbs_any _).mono ?_
          rintro e Va ⟨rfl, hva, bva⟩
          have gva : Va.cell? ⟨n₀ + 1, kk, none⟩ = some (.string ⟨(nameOf kk).toArray⟩) := cell_blk (show Va.heap[n₀ + 1]? = _ from hz1 ▸ hva) (verbs_at hk8)
          have kva := (Kept.of_below bva 0).same _ _ (show (w.alloc (.cells (opC x) 25)).drew.heap[n₀]? = _ from a1) (.inl rfl)
          have xva : Va.cell? ⟨n₀, 0, none⟩ = some (.int .i64 kk) := by rw [← hk]; exact cell_blk (i := 0) kva rfl
          have BVa := ((Below.refl _ (w.alloc (.cells (opC x) 25))).drewN 1).trans bva
          clear hva bva
          first | refine hK _ _ ?_ | refine ⟨trivial, hK _ _ ?_⟩ | refine ⟨fun _ _ => trivial, hK _ _ ?_⟩
          clear hK K
          refine wpAny_take (i := 3) (oi := ⟨some 23, _, _, _, _, _⟩) (v := ?_) rfl (by kernel_rfl) (by kernel_rfl) (by kernel_rfl) (fun _ _ _ h => h) (Or.inl ⟨by rfl, ?_⟩) ?_
          rotate_left
          · intro w; go_simp <;> with_reducible rfl
          simp only [Act.put, List.setIfInBounds_toArray, List.set_cons_zero, List.set_cons_succ]
          refine wpAny_ready (rs := [4]) (by kernel_rfl) (by simp) ?_
          refine AllReady.cons rfl (fun K hK => ?_) AllReady.nil
          go_simp
          first | refine hK _ _ ?_ | refine ⟨trivial, hK _ _ ?_⟩ | refine ⟨fun _ _ => trivial, hK _ _ ?_⟩
          clear hK K
          refine wpAny_take (i := 5) (oi := ⟨some 3, _, _, _, _, _⟩) (v := ?_) rfl (by kernel_rfl) (by kernel_rfl) (by kernel_rfl) (fun _ _ _ h => h) (Or.inl ⟨by rfl, ?_⟩) ?_
          rotate_left
          · intro w; go_simp <;> with_reducible rfl
          simp only [Act.put, List.setIfInBounds_toArray, List.set_cons_zero, List.set_cons_succ]
          refine wpAny_done (by kernel_rfl) ?_ _
          go_wp2_with (fail)
          go_meet
          case rel => exact ⟨rfl, kva, by rw [← hz1]; exact BVa⟩
        case rest =>
          obtain ⟨rfl, hX, hBc⟩ := hcut
          have hB := B1.trans (hBc.mono (by omega))
          have c0 : wc.cell? ⟨n₀, 0, none⟩ = some (.int .i64 kk) := by rw [← hk]; exact cell_blk (i := 0) hX rfl
          clear x0 x4 a1 B1 hBc hkI hkN hz1 hx
          go_upto_block 0 with (fail)
          go_cut [3] (fun c wx => ∃ S : ByteArray, c = .string S ∧ S.data.toList = spellD f (op8 x) ∧ (S.size : Int) ≤ 1000 ∧ wx.heap[n₀]? = some (.cells (opC x) 25 (0, 0)) ∧ Below n₀ w wx)
          case first =>
            have h7 : kk = 1 ∨ kk = 2 ∨ kk = 3 ∨ kk = 4 ∨ kk = 5 ∨ kk = 6 ∨ kk = 7 ∨ kk = 8 := by omega
            rcases h7 with h | h | h | h | h | h | h | h
            · obtain rfl : kk = 1 := by omega
              have hff : f = (1, [112, 117, 98, 108, 105, 115, 104], [82, 87, 72, 84, 67, 73, 88]) := eq_of_form hf (by rw [hfk]; rfl)
              have hnm : (⟨(nameOf 1).toArray⟩ : ByteArray) = ⟨#[112, 117, 98, 108, 105, 115, 104]⟩ := rfl
              rw [hnm]
              obtain ⟨DB, hDB, hDz, qD⟩ := DecDB
              have d0 : (DB x.r).data.toList = decS x.r := hDB _
              have z0 : ((DB x.r).size : Int) ≤ 21 := hDz _ hr1 hr2
              have d1 : (DB x.w).data.toList = decS x.w := hDB _
              have z1 : ((DB x.w).size : Int) ≤ 21 := hDz _ hw1 hw2
              have d2 : (DB x.h).data.toList = decS x.h := hDB _
              have z2 : ((DB x.h).size : Int) ≤ 21 := hDz _ hh1 hh2
              have d3 : (DB x.t).data.toList = decS x.t := hDB _
              have z3 : ((DB x.t).size : Int) ≤ 21 := hDz _ ht1 ht2
              have d4 : (DB x.c).data.toList = decS x.c := hDB _
              have z4 : ((DB x.c).size : Int) ≤ 21 := hDz _ hc1 hc2
              have d5 : (DB x.i).data.toList = decS x.i := hDB _
              have z5 : ((DB x.i).size : Int) ≤ 21 := hDz _ hi1 hi2
              obtain ⟨D6, d6, z6, q6⟩ := HexD x.s (by omega)
              obtain ⟨E1, e1⟩ : ∃ E : ByteArray, (⟨#[32]⟩ : ByteArray) ++ (DB x.r) = E := ⟨_, rfl⟩
              have s1 : (E1.size : Int) ≤ 22 := by have t := congrArg ByteArray.size e1; rw [ByteArray.size_append, sp1] at t; omega
              obtain ⟨E2, e2⟩ : ∃ E : ByteArray, E1 ++ (⟨#[32]⟩ : ByteArray) = E := ⟨_, rfl⟩
              have s2 : (E2.size : Int) ≤ 23 := by have t := congrArg ByteArray.size e2; rw [ByteArray.size_append, sp1] at t; omega
              obtain ⟨E3, e3⟩ : ∃ E : ByteArray, E2 ++ (DB x.w) = E := ⟨_, rfl⟩
              have s3 : (E3.size : Int) ≤ 44 := by have t := congrArg ByteArray.size e3; rw [ByteArray.size_append] at t; omega
              obtain ⟨E4, e4⟩ : ∃ E : ByteArray, E3 ++ (⟨#[32]⟩ : ByteArray) = E := ⟨_, rfl⟩
              have s4 : (E4.size : Int) ≤ 45 := by have t := congrArg ByteArray.size e4; rw [ByteArray.size_append, sp1] at t; omega
              obtain ⟨E5, e5⟩ : ∃ E : ByteArray, E4 ++ (DB x.h) = E := ⟨_, rfl⟩
              have s5 : (E5.size : Int) ≤ 66 := by have t := congrArg ByteArray.size e5; rw [ByteArray.size_append] at t; omega
              obtain ⟨E6, e6⟩ : ∃ E : ByteArray, E5 ++ (⟨#[32]⟩ : ByteArray) = E := ⟨_, rfl⟩
              have s6 : (E6.size : Int) ≤ 67 := by have t := congrArg ByteArray.size e6; rw [ByteArray.size_append, sp1] at t; omega
              obtain ⟨E7, e7⟩ : ∃ E : ByteArray, E6 ++ (DB x.t) = E := ⟨_, rfl⟩
              have s7 : (E7.size : Int) ≤ 88 := by have t := congrArg ByteArray.size e7; rw [ByteArray.size_append] at t; omega
              obtain ⟨E8, e8⟩ : ∃ E : ByteArray, E7 ++ (⟨#[32]⟩ : ByteArray) = E := ⟨_, rfl⟩
              have s8 : (E8.size : Int) ≤ 89 := by have t := congrArg ByteArray.size e8; rw [ByteArray.size_append, sp1] at t; omega
              obtain ⟨E9, e9⟩ : ∃ E : ByteArray, E8 ++ (DB x.c) = E := ⟨_, rfl⟩
              have s9 : (E9.size : Int) ≤ 110 := by have t := congrArg ByteArray.size e9; rw [ByteArray.size_append] at t; omega
              obtain ⟨E10, e10⟩ : ∃ E : ByteArray, E9 ++ (⟨#[32]⟩ : ByteArray) = E := ⟨_, rfl⟩
              have s10 : (E10.size : Int) ≤ 111 := by have t := congrArg ByteArray.size e10; rw [ByteArray.size_append, sp1] at t; omega
              obtain ⟨E11, e11⟩ : ∃ E : ByteArray, E10 ++ (DB x.i) = E := ⟨_, rfl⟩
              have s11 : (E11.size : Int) ≤ 132 := by have t := congrArg ByteArray.size e11; rw [ByteArray.size_append] at t; omega
              obtain ⟨E12, e12⟩ : ∃ E : ByteArray, E11 ++ (⟨#[32]⟩ : ByteArray) = E := ⟨_, rfl⟩
              have s12 : (E12.size : Int) ≤ 133 := by have t := congrArg ByteArray.size e12; rw [ByteArray.size_append, sp1] at t; omega
              obtain ⟨E13, e13⟩ : ∃ E : ByteArray, E12 ++ D6 = E := ⟨_, rfl⟩
              have s13 : (E13.size : Int) ≤ 614 := by have t := congrArg ByteArray.size e13; rw [ByteArray.size_append] at t; omega
              obtain ⟨S, hSS⟩ : ∃ S : ByteArray, (⟨#[112, 117, 98, 108, 105, 115, 104]⟩ : ByteArray) ++ E13 = S := ⟨_, rfl⟩
              have hSz : (S.size : Int) ≤ 623 := by have t := congrArg ByteArray.size hSS; rw [ByteArray.size_append, show (⟨#[112, 117, 98, 108, 105, 115, 104]⟩ : ByteArray).size = 7 from rfl] at t; omega
              have hS : S.data.toList = spellD f (op8 x) := by
                rw [← hSS, hff]
                simp only [← e13, ← e12, ← e11, ← e10, ← e9, ← e8, ← e7, ← e6, ← e5, ← e4, ← e3, ← e2, ← e1, ByteArray.data_append, Array.toList_append, d0, d1, d2, d3, d4, d5, d6]
                first | rfl | simp [spellD, joinB, sayD, getF, op8, List.append_assoc]
              replace d0 := hid d0
              replace d1 := hid d1
              replace d2 := hid d2
              replace d3 := hid d3
              replace d4 := hid d4
              replace d5 := hid d5
              replace d6 := hid d6
              replace hS := hid hS
              clear hDB hDz
              clear hff hnm hk hk1 hk8 hfk h
              have c1 : wc.cell? ⟨n₀, 1, none⟩ = some (.int .i64 x.r) := cell_blk (i := 1) hX rfl
              have c4 : wc.cell? ⟨n₀, 4, none⟩ = some (.string x.s) := cell_blk (i := 4) hX rfl
              have c5 : wc.cell? ⟨n₀, 5, none⟩ = some (.int .i64 x.w) := cell_blk (i := 5) hX rfl
              have c6 : wc.cell? ⟨n₀, 6, none⟩ = some (.int .i64 x.h) := cell_blk (i := 6) hX rfl
              have c7 : wc.cell? ⟨n₀, 7, none⟩ = some (.int .i64 x.t) := cell_blk (i := 7) hX rfl
              have c8 : wc.cell? ⟨n₀, 8, none⟩ = some (.int .i64 x.c) := cell_blk (i := 8) hX rfl
              have c9 : wc.cell? ⟨n₀, 9, none⟩ = some (.int .i64 x.i) := cell_blk (i := 9) hX rfl
              go_upto_region 7 with (fail)
              obtain ⟨n4, hn4⟩ : ∃ n, wc.heap.size = n := ⟨_, rfl⟩
              have gY := World.alloc_heap_new wc (.cells #[.int .i64 x.w, .int .i64 x.h, .int .i64 x.t, .int .i64 x.c, .int .i64 x.i] 23)
              rw [hn4] at gY
              have hX4 := (Kept.alloc 0 wc (.cells #[.int .i64 x.w, .int .i64 x.h, .int .i64 x.t, .int .i64 x.c, .int .i64 x.i] 23)).same _ _ hX (.inl rfl)
              have hB4 := hB.alloc (by have := hB.size; omega) (.cells #[.int .i64 x.w, .int .i64 x.h, .int .i64 x.t, .int .i64 x.c, .int .i64 x.i] 23)
              obtain ⟨w4, hw4⟩ : ∃ W : World, W = (wc.alloc (.cells #[.int .i64 x.w, .int .i64 x.h, .int .i64 x.t, .int .i64 x.c, .int .i64 x.i] 23)) := ⟨_, rfl⟩
              rw [← hw4] at gY hX4 hB4 ⊢
              replace hw4 := hid hw4
              clear hX hB c1 c4 c5 c6 c7 c8 c9
              have kS : Hid (∀ W W' : World, (W.cell? ⟨n₀, 1, none⟩ = some (.int .i64 x.r) ∧ W.cell? ⟨n₀, 4, none⟩ = some (.string x.s) ∧ W.cell? ⟨n4, 0, none⟩ = some (.int .i64 x.w) ∧ W.cell? ⟨n4, 1, none⟩ = some (.int .i64 x.h) ∧ W.cell? ⟨n4, 2, none⟩ = some (.int .i64 x.t) ∧ W.cell? ⟨n4, 3, none⟩ = some (.int .i64 x.c) ∧ W.cell? ⟨n4, 4, none⟩ = some (.int .i64 x.i) ∧ W.heap[n₀]? = some (.cells (opC x) 25 (0, 0)) ∧ W.heap[n4]? = some (.cells #[.int .i64 x.w, .int .i64 x.h, .int .i64 x.t, .int .i64 x.c, .int .i64 x.i] 23 (0, 0)) ∧ Below n₀ w W) → Below W.heap.size W W' → (W'.cell? ⟨n₀, 1, none⟩ = some (.int .i64 x.r) ∧ W'.cell? ⟨n₀, 4, none⟩ = some (.string x.s) ∧ W'.cell? ⟨n4, 0, none⟩ = some (.int .i64 x.w) ∧ W'.cell? ⟨n4, 1, none⟩ = some (.int .i64 x.h) ∧ W'.cell? ⟨n4, 2, none⟩ = some (.int .i64 x.t) ∧ W'.cell? ⟨n4, 3, none⟩ = some (.int .i64 x.c) ∧ W'.cell? ⟨n4, 4, none⟩ = some (.int .i64 x.i) ∧ W'.heap[n₀]? = some (.cells (opC x) 25 (0, 0)) ∧ W'.heap[n4]? = some (.cells #[.int .i64 x.w, .int .i64 x.h, .int .i64 x.t, .int .i64 x.c, .int .i64 x.i] 23 (0, 0)) ∧ Below n₀ w W')) := hid (by rintro W W' ⟨r0, r1, r2, r3, r4, r5, r6, rX, rY, rB⟩ hb9; have kk9 := Kept.of_below hb9 0; exact ⟨kk9.cell r0, kk9.cell r1, kk9.cell r2, kk9.cell r3, kk9.cell r4, kk9.cell r5, kk9.cell r6, kk9.same _ _ rX (.inl rfl), kk9.same _ _ rY (.inl rfl), rB.trans (hb9.mono (by have := rB.size; omega))⟩)
              have fS : Hid (∀ W : World, (W.cell? ⟨n₀, 1, none⟩ = some (.int .i64 x.r) ∧ W.cell? ⟨n₀, 4, none⟩ = some (.string x.s) ∧ W.cell? ⟨n4, 0, none⟩ = some (.int .i64 x.w) ∧ W.cell? ⟨n4, 1, none⟩ = some (.int .i64 x.h) ∧ W.cell? ⟨n4, 2, none⟩ = some (.int .i64 x.t) ∧ W.cell? ⟨n4, 3, none⟩ = some (.int .i64 x.c) ∧ W.cell? ⟨n4, 4, none⟩ = some (.int .i64 x.i) ∧ W.heap[n₀]? = some (.cells (opC x) 25 (0, 0)) ∧ W.heap[n4]? = some (.cells #[.int .i64 x.w, .int .i64 x.h, .int .i64 x.t, .int .i64 x.c, .int .i64 x.i] 23 (0, 0)) ∧ Below n₀ w W) → W.heap[n₀]? = some (.cells (opC x) 25 (0, 0)) ∧ Below n₀ w W) := hid (by rintro W ⟨r0, r1, r2, r3, r4, r5, r6, rX, rY, rB⟩; exact ⟨rX, rB⟩)
              have g0 : ((9223372036854775807 : Int) < (1 : Int) + ((DB x.r).size : Int)) = False := eq_false (by omega)
              have g1 : ((9223372036854775807 : Nat) < 1 + (DB x.r).size) = False := eq_false (by omega)
              have g2 : ((9223372036854775807 : Int) < (E1.size : Int) + (1 : Int)) = False := eq_false (by omega)
              have g3 : ((9223372036854775807 : Nat) < E1.size + 1) = False := eq_false (by omega)
              have g4 : ((9223372036854775807 : Int) < (E2.size : Int) + ((DB x.w).size : Int)) = False := eq_false (by omega)
              have g5 : ((9223372036854775807 : Nat) < E2.size + (DB x.w).size) = False := eq_false (by omega)
              have g6 : ((9223372036854775807 : Int) < (E3.size : Int) + (1 : Int)) = False := eq_false (by omega)
              have g7 : ((9223372036854775807 : Nat) < E3.size + 1) = False := eq_false (by omega)
              have g8 : ((9223372036854775807 : Int) < (E4.size : Int) + ((DB x.h).size : Int)) = False := eq_false (by omega)
              have g9 : ((9223372036854775807 : Nat) < E4.size + (DB x.h).size) = False := eq_false (by omega)
              have g10 : ((9223372036854775807 : Int) < (E5.size : Int) + (1 : Int)) = False := eq_false (by omega)
              have g11 : ((9223372036854775807 : Nat) < E5.size + 1) = False := eq_false (by omega)
              have g12 : ((9223372036854775807 : Int) < (E6.size : Int) + ((DB x.t).size : Int)) = False := eq_false (by omega)
              have g13 : ((9223372036854775807 : Nat) < E6.size + (DB x.t).size) = False := eq_false (by omega)
              have g14 : ((9223372036854775807 : Int) < (E7.size : Int) + (1 : Int)) = False := eq_false (by omega)
              have g15 : ((9223372036854775807 : Nat) < E7.size + 1) = False := eq_false (by omega)
              have g16 : ((9223372036854775807 : Int) < (E8.size : Int) + ((DB x.c).size : Int)) = False := eq_false (by omega)
              have g17 : ((9223372036854775807 : Nat) < E8.size + (DB x.c).size) = False := eq_false (by omega)
              have g18 : ((9223372036854775807 : Int) < (E9.size : Int) + (1 : Int)) = False := eq_false (by omega)
              have g19 : ((9223372036854775807 : Nat) < E9.size + 1) = False := eq_false (by omega)
              have g20 : ((9223372036854775807 : Int) < (E10.size : Int) + ((DB x.i).size : Int)) = False := eq_false (by omega)
              have g21 : ((9223372036854775807 : Nat) < E10.size + (DB x.i).size) = False := eq_false (by omega)
              have g22 : ((9223372036854775807 : Int) < (E11.size : Int) + (1 : Int)) = False := eq_false (by omega)
              have g23 : ((9223372036854775807 : Nat) < E11.size + 1) = False := eq_false (by omega)
              have g24 : ((9223372036854775807 : Int) < (E12.size : Int) + (D6.size : Int)) = False := eq_false (by omega)
              have g25 : ((9223372036854775807 : Nat) < E12.size + D6.size) = False := eq_false (by omega)
              have g26 : ((9223372036854775807 : Int) < (7 : Int) + (E13.size : Int)) = False := eq_false (by omega)
              have g27 : ((9223372036854775807 : Nat) < 7 + E13.size) = False := eq_false (by omega)
              have st : Hid (w4.drew.cell? ⟨n₀, 1, none⟩ = some (.int .i64 x.r) ∧ w4.drew.cell? ⟨n₀, 4, none⟩ = some (.string x.s) ∧ w4.drew.cell? ⟨n4, 0, none⟩ = some (.int .i64 x.w) ∧ w4.drew.cell? ⟨n4, 1, none⟩ = some (.int .i64 x.h) ∧ w4.drew.cell? ⟨n4, 2, none⟩ = some (.int .i64 x.t) ∧ w4.drew.cell? ⟨n4, 3, none⟩ = some (.int .i64 x.c) ∧ w4.drew.cell? ⟨n4, 4, none⟩ = some (.int .i64 x.i) ∧ w4.drew.heap[n₀]? = some (.cells (opC x) 25 (0, 0)) ∧ w4.drew.heap[n4]? = some (.cells #[.int .i64 x.w, .int .i64 x.h, .int .i64 x.t, .int .i64 x.c, .int .i64 x.i] 23 (0, 0)) ∧ Below n₀ w w4.drew) := hid ⟨cell_blk (i := 1) (show w4.drew.heap[n₀]? = _ from hX4) rfl, cell_blk (i := 4) (show w4.drew.heap[n₀]? = _ from hX4) rfl, cell_blk (i := 0) (show w4.drew.heap[n4]? = _ from gY) rfl, cell_blk (i := 1) (show w4.drew.heap[n4]? = _ from gY) rfl, cell_blk (i := 2) (show w4.drew.heap[n4]? = _ from gY) rfl, cell_blk (i := 3) (show w4.drew.heap[n4]? = _ from gY) rfl, cell_blk (i := 4) (show w4.drew.heap[n4]? = _ from gY) rfl, hX4, gY, hB4.drewN 1⟩
              go_region_held3 (fun W => W.cell? ⟨n₀, 1, none⟩ = some (.int .i64 x.r) ∧ W.cell? ⟨n₀, 4, none⟩ = some (.string x.s) ∧ W.cell? ⟨n4, 0, none⟩ = some (.int .i64 x.w) ∧ W.cell? ⟨n4, 1, none⟩ = some (.int .i64 x.h) ∧ W.cell? ⟨n4, 2, none⟩ = some (.int .i64 x.t) ∧ W.cell? ⟨n4, 3, none⟩ = some (.int .i64 x.c) ∧ W.cell? ⟨n4, 4, none⟩ = some (.int .i64 x.i) ∧ W.heap[n₀]? = some (.cells (opC x) 25 (0, 0)) ∧ W.heap[n4]? = some (.cells #[.int .i64 x.w, .int .i64 x.h, .int .i64 x.t, .int .i64 x.c, .int .i64 x.i] 23 (0, 0)) ∧ Below n₀ w W) (first | exact (Hid.out kS) _ _ (by assumption) hb9 | exact Hid.out st) (first | (go_at_call 12; refine (qD.out _ (by assumption) (by assumption) _).mono ?_; rintro e w' ⟨rfl, hb9⟩) | (go_at_call 13; refine (q6.out _).mono ?_; rintro e w' ⟨rfl, hb9⟩))
              go_wp2_with (fail)
              go_meet
              case rel => exact ⟨S, rfl, hS.out, by omega, (fS.out _ (by assumption)).1, (fS.out _ (by assumption)).2⟩
            · obtain rfl : kk = 2 := by omega
              have hff : f = (2, [99, 104, 101, 99, 107, 111, 117, 116], [82]) := eq_of_form hf (by rw [hfk]; rfl)
              have hnm : (⟨(nameOf 2).toArray⟩ : ByteArray) = ⟨#[99, 104, 101, 99, 107, 111, 117, 116]⟩ := rfl
              rw [hnm]
              obtain ⟨DB, hDB, hDz, qD⟩ := DecDB
              have d0 : (DB x.r).data.toList = decS x.r := hDB _
              have z0 : ((DB x.r).size : Int) ≤ 21 := hDz _ hr1 hr2
              obtain ⟨E1, e1⟩ : ∃ E : ByteArray, (⟨#[32]⟩ : ByteArray) ++ (DB x.r) = E := ⟨_, rfl⟩
              have s1 : (E1.size : Int) ≤ 22 := by have t := congrArg ByteArray.size e1; rw [ByteArray.size_append, sp1] at t; omega
              obtain ⟨S, hSS⟩ : ∃ S : ByteArray, (⟨#[99, 104, 101, 99, 107, 111, 117, 116]⟩ : ByteArray) ++ E1 = S := ⟨_, rfl⟩
              have hSz : (S.size : Int) ≤ 31 := by have t := congrArg ByteArray.size hSS; rw [ByteArray.size_append, show (⟨#[99, 104, 101, 99, 107, 111, 117, 116]⟩ : ByteArray).size = 8 from rfl] at t; omega
              have hS : S.data.toList = spellD f (op8 x) := by
                rw [← hSS, hff]
                simp only [← e1, ByteArray.data_append, Array.toList_append, d0]
                first | rfl | simp [spellD, joinB, sayD, getF, op8, List.append_assoc]
              replace d0 := hid d0
              replace hS := hid hS
              clear hDB hDz
              clear hff hnm hk hk1 hk8 hfk h
              have c1 : wc.cell? ⟨n₀, 1, none⟩ = some (.int .i64 x.r) := cell_blk (i := 1) hX rfl
              go_wp2_with (fail)
              refine (qD.out _ (by assumption) (by assumption) _).mono ?_
              rintro e w2 ⟨rfl, b2⟩
              have hX2 := (Kept.of_below b2 0).same _ _ hX (.inl rfl)
              have hB2 := hB.trans (b2.mono (by have := hB.size; omega))
              go_wp2_with (fail)
              go_meet
              case rel => exact ⟨S, rfl, hS.out, by omega, hX2, hB2⟩
            · obtain rfl : kk = 3 := by omega
              have hff : f = (3, [112, 97, 103, 101], [82, 78]) := eq_of_form hf (by rw [hfk]; rfl)
              have hnm : (⟨(nameOf 3).toArray⟩ : ByteArray) = ⟨#[112, 97, 103, 101]⟩ := rfl
              rw [hnm]
              obtain ⟨DB, hDB, hDz, qD⟩ := DecDB
              have d0 : (DB x.r).data.toList = decS x.r := hDB _
              have z0 : ((DB x.r).size : Int) ≤ 21 := hDz _ hr1 hr2
              have d1 : (DB x.n).data.toList = decS x.n := hDB _
              have z1 : ((DB x.n).size : Int) ≤ 21 := hDz _ hn1 hn2
              obtain ⟨E1, e1⟩ : ∃ E : ByteArray, (⟨#[32]⟩ : ByteArray) ++ (DB x.r) = E := ⟨_, rfl⟩
              have s1 : (E1.size : Int) ≤ 22 := by have t := congrArg ByteArray.size e1; rw [ByteArray.size_append, sp1] at t; omega
              obtain ⟨E2, e2⟩ : ∃ E : ByteArray, E1 ++ (⟨#[32]⟩ : ByteArray) = E := ⟨_, rfl⟩
              have s2 : (E2.size : Int) ≤ 23 := by have t := congrArg ByteArray.size e2; rw [ByteArray.size_append, sp1] at t; omega
              obtain ⟨E3, e3⟩ : ∃ E : ByteArray, E2 ++ (DB x.n) = E := ⟨_, rfl⟩
              have s3 : (E3.size : Int) ≤ 44 := by have t := congrArg ByteArray.size e3; rw [ByteArray.size_append] at t; omega
              obtain ⟨S, hSS⟩ : ∃ S : ByteArray, (⟨#[112, 97, 103, 101]⟩ : ByteArray) ++ E3 = S := ⟨_, rfl⟩
              have hSz : (S.size : Int) ≤ 53 := by have t := congrArg ByteArray.size hSS; rw [ByteArray.size_append, show (⟨#[112, 97, 103, 101]⟩ : ByteArray).size = 4 from rfl] at t; omega
              have hS : S.data.toList = spellD f (op8 x) := by
                rw [← hSS, hff]
                simp only [← e3, ← e2, ← e1, ByteArray.data_append, Array.toList_append, d0, d1]
                first | rfl | simp [spellD, joinB, sayD, getF, op8, List.append_assoc]
              replace d0 := hid d0
              replace d1 := hid d1
              replace hS := hid hS
              clear hDB hDz
              clear hff hnm hk hk1 hk8 hfk h
              have c1 : wc.cell? ⟨n₀, 1, none⟩ = some (.int .i64 x.r) := cell_blk (i := 1) hX rfl
              have c3 : wc.cell? ⟨n₀, 3, none⟩ = some (.int .i64 x.n) := cell_blk (i := 3) hX rfl
              go_upto_region 12 with (fail)
              have kS : Hid (∀ W W' : World, (W.cell? ⟨n₀, 1, none⟩ = some (.int .i64 x.r) ∧ W.cell? ⟨n₀, 3, none⟩ = some (.int .i64 x.n) ∧ W.heap[n₀]? = some (.cells (opC x) 25 (0, 0)) ∧ Below n₀ w W) → Below W.heap.size W W' → (W'.cell? ⟨n₀, 1, none⟩ = some (.int .i64 x.r) ∧ W'.cell? ⟨n₀, 3, none⟩ = some (.int .i64 x.n) ∧ W'.heap[n₀]? = some (.cells (opC x) 25 (0, 0)) ∧ Below n₀ w W')) := hid (by rintro W W' ⟨r0, r1, rX, rB⟩ hb9; have kk9 := Kept.of_below hb9 0; exact ⟨kk9.cell r0, kk9.cell r1, kk9.same _ _ rX (.inl rfl), rB.trans (hb9.mono (by have := rB.size; omega))⟩)
              have fS : Hid (∀ W : World, (W.cell? ⟨n₀, 1, none⟩ = some (.int .i64 x.r) ∧ W.cell? ⟨n₀, 3, none⟩ = some (.int .i64 x.n) ∧ W.heap[n₀]? = some (.cells (opC x) 25 (0, 0)) ∧ Below n₀ w W) → W.heap[n₀]? = some (.cells (opC x) 25 (0, 0)) ∧ Below n₀ w W) := hid (by rintro W ⟨r0, r1, rX, rB⟩; exact ⟨rX, rB⟩)
              have g0 : ((9223372036854775807 : Int) < (1 : Int) + ((DB x.r).size : Int)) = False := eq_false (by omega)
              have g1 : ((9223372036854775807 : Nat) < 1 + (DB x.r).size) = False := eq_false (by omega)
              have g2 : ((9223372036854775807 : Int) < (E1.size : Int) + (1 : Int)) = False := eq_false (by omega)
              have g3 : ((9223372036854775807 : Nat) < E1.size + 1) = False := eq_false (by omega)
              have g4 : ((9223372036854775807 : Int) < (E2.size : Int) + ((DB x.n).size : Int)) = False := eq_false (by omega)
              have g5 : ((9223372036854775807 : Nat) < E2.size + (DB x.n).size) = False := eq_false (by omega)
              have g6 : ((9223372036854775807 : Int) < (4 : Int) + (E3.size : Int)) = False := eq_false (by omega)
              have g7 : ((9223372036854775807 : Nat) < 4 + E3.size) = False := eq_false (by omega)
              have st : Hid (wc.drew.cell? ⟨n₀, 1, none⟩ = some (.int .i64 x.r) ∧ wc.drew.cell? ⟨n₀, 3, none⟩ = some (.int .i64 x.n) ∧ wc.drew.heap[n₀]? = some (.cells (opC x) 25 (0, 0)) ∧ Below n₀ w wc.drew) := hid ⟨cell_blk (i := 1) (show wc.drew.heap[n₀]? = _ from hX) rfl, cell_blk (i := 3) (show wc.drew.heap[n₀]? = _ from hX) rfl, hX, hB.drewN 1⟩
              go_region_held3 (fun W => W.cell? ⟨n₀, 1, none⟩ = some (.int .i64 x.r) ∧ W.cell? ⟨n₀, 3, none⟩ = some (.int .i64 x.n) ∧ W.heap[n₀]? = some (.cells (opC x) 25 (0, 0)) ∧ Below n₀ w W) (first | exact (Hid.out kS) _ _ (by assumption) hb9 | exact Hid.out st) (first | (go_at_call 12; refine (qD.out _ (by assumption) (by assumption) _).mono ?_; rintro e w' ⟨rfl, hb9⟩))
              go_wp2_with (fail)
              go_meet
              case rel => exact ⟨S, rfl, hS.out, by omega, (fS.out _ (by assumption)).1, (fS.out _ (by assumption)).2⟩
            · obtain rfl : kk = 4 := by omega
              have hff : f = (4, [108, 111, 103], []) := eq_of_form hf (by rw [hfk]; rfl)
              have hnm : (⟨(nameOf 4).toArray⟩ : ByteArray) = ⟨#[108, 111, 103]⟩ := rfl
              rw [hnm]
              have hS : (⟨#[108, 111, 103]⟩ : ByteArray).data.toList = spellD f (op8 x) := by rw [hff]; rfl
              clear hff hnm hk hk1 hk8 hfk h
              replace hS := hid hS
              go_wp2_with (fail)
              go_meet
              case rel => exact ⟨_, rfl, hS.out, by decide, hX, hB⟩
            · obtain rfl : kk = 5 := by omega
              have hff : f = (5, [100, 105, 102, 102], [82, 79]) := eq_of_form hf (by rw [hfk]; rfl)
              have hnm : (⟨(nameOf 5).toArray⟩ : ByteArray) = ⟨#[100, 105, 102, 102]⟩ := rfl
              rw [hnm]
              obtain ⟨DB, hDB, hDz, qD⟩ := DecDB
              have d0 : (DB x.r).data.toList = decS x.r := hDB _
              have z0 : ((DB x.r).size : Int) ≤ 21 := hDz _ hr1 hr2
              have d1 : (DB x.o).data.toList = decS x.o := hDB _
              have z1 : ((DB x.o).size : Int) ≤ 21 := hDz _ ho1 ho2
              obtain ⟨E1, e1⟩ : ∃ E : ByteArray, (⟨#[32]⟩ : ByteArray) ++ (DB x.r) = E := ⟨_, rfl⟩
              have s1 : (E1.size : Int) ≤ 22 := by have t := congrArg ByteArray.size e1; rw [ByteArray.size_append, sp1] at t; omega
              obtain ⟨E2, e2⟩ : ∃ E : ByteArray, E1 ++ (⟨#[32]⟩ : ByteArray) = E := ⟨_, rfl⟩
              have s2 : (E2.size : Int) ≤ 23 := by have t := congrArg ByteArray.size e2; rw [ByteArray.size_append, sp1] at t; omega
              obtain ⟨E3, e3⟩ : ∃ E : ByteArray, E2 ++ (DB x.o) = E := ⟨_, rfl⟩
              have s3 : (E3.size : Int) ≤ 44 := by have t := congrArg ByteArray.size e3; rw [ByteArray.size_append] at t; omega
              obtain ⟨S, hSS⟩ : ∃ S : ByteArray, (⟨#[100, 105, 102, 102]⟩ : ByteArray) ++ E3 = S := ⟨_, rfl⟩
              have hSz : (S.size : Int) ≤ 53 := by have t := congrArg ByteArray.size hSS; rw [ByteArray.size_append, show (⟨#[100, 105, 102, 102]⟩ : ByteArray).size = 4 from rfl] at t; omega
              have hS : S.data.toList = spellD f (op8 x) := by
                rw [← hSS, hff]
                simp only [← e3, ← e2, ← e1, ByteArray.data_append, Array.toList_append, d0, d1]
                first | rfl | simp [spellD, joinB, sayD, getF, op8, List.append_assoc]
              replace d0 := hid d0
              replace d1 := hid d1
              replace hS := hid hS
              clear hDB hDz
              clear hff hnm hk hk1 hk8 hfk h
              have c1 : wc.cell? ⟨n₀, 1, none⟩ = some (.int .i64 x.r) := cell_blk (i := 1) hX rfl
              have c2 : wc.cell? ⟨n₀, 2, none⟩ = some (.int .i64 x.o) := cell_blk (i := 2) hX rfl
              go_upto_region 14 with (fail)
              have kS : Hid (∀ W W' : World, (W.cell? ⟨n₀, 1, none⟩ = some (.int .i64 x.r) ∧ W.cell? ⟨n₀, 2, none⟩ = some (.int .i64 x.o) ∧ W.heap[n₀]? = some (.cells (opC x) 25 (0, 0)) ∧ Below n₀ w W) → Below W.heap.size W W' → (W'.cell? ⟨n₀, 1, none⟩ = some (.int .i64 x.r) ∧ W'.cell? ⟨n₀, 2, none⟩ = some (.int .i64 x.o) ∧ W'.heap[n₀]? = some (.cells (opC x) 25 (0, 0)) ∧ Below n₀ w W')) := hid (by rintro W W' ⟨r0, r1, rX, rB⟩ hb9; have kk9 := Kept.of_below hb9 0; exact ⟨kk9.cell r0, kk9.cell r1, kk9.same _ _ rX (.inl rfl), rB.trans (hb9.mono (by have := rB.size; omega))⟩)
              have fS : Hid (∀ W : World, (W.cell? ⟨n₀, 1, none⟩ = some (.int .i64 x.r) ∧ W.cell? ⟨n₀, 2, none⟩ = some (.int .i64 x.o) ∧ W.heap[n₀]? = some (.cells (opC x) 25 (0, 0)) ∧ Below n₀ w W) → W.heap[n₀]? = some (.cells (opC x) 25 (0, 0)) ∧ Below n₀ w W) := hid (by rintro W ⟨r0, r1, rX, rB⟩; exact ⟨rX, rB⟩)
              have g0 : ((9223372036854775807 : Int) < (1 : Int) + ((DB x.r).size : Int)) = False := eq_false (by omega)
              have g1 : ((9223372036854775807 : Nat) < 1 + (DB x.r).size) = False := eq_false (by omega)
              have g2 : ((9223372036854775807 : Int) < (E1.size : Int) + (1 : Int)) = False := eq_false (by omega)
              have g3 : ((9223372036854775807 : Nat) < E1.size + 1) = False := eq_false (by omega)
              have g4 : ((9223372036854775807 : Int) < (E2.size : Int) + ((DB x.o).size : Int)) = False := eq_false (by omega)
              have g5 : ((9223372036854775807 : Nat) < E2.size + (DB x.o).size) = False := eq_false (by omega)
              have g6 : ((9223372036854775807 : Int) < (4 : Int) + (E3.size : Int)) = False := eq_false (by omega)
              have g7 : ((9223372036854775807 : Nat) < 4 + E3.size) = False := eq_false (by omega)
              have st : Hid (wc.drew.cell? ⟨n₀, 1, none⟩ = some (.int .i64 x.r) ∧ wc.drew.cell? ⟨n₀, 2, none⟩ = some (.int .i64 x.o) ∧ wc.drew.heap[n₀]? = some (.cells (opC x) 25 (0, 0)) ∧ Below n₀ w wc.drew) := hid ⟨cell_blk (i := 1) (show wc.drew.heap[n₀]? = _ from hX) rfl, cell_blk (i := 2) (show wc.drew.heap[n₀]? = _ from hX) rfl, hX, hB.drewN 1⟩
              go_region_held3 (fun W => W.cell? ⟨n₀, 1, none⟩ = some (.int .i64 x.r) ∧ W.cell? ⟨n₀, 2, none⟩ = some (.int .i64 x.o) ∧ W.heap[n₀]? = some (.cells (opC x) 25 (0, 0)) ∧ Below n₀ w W) (first | exact (Hid.out kS) _ _ (by assumption) hb9 | exact Hid.out st) (first | (go_at_call 12; refine (qD.out _ (by assumption) (by assumption) _).mono ?_; rintro e w' ⟨rfl, hb9⟩))
              go_wp2_with (fail)
              go_meet
              case rel => exact ⟨S, rfl, hS.out, by omega, (fS.out _ (by assumption)).1, (fS.out _ (by assumption)).2⟩
            · obtain rfl : kk = 6 := by omega
              have hff : f = (6, [100, 101, 108, 101, 116, 101], [82]) := eq_of_form hf (by rw [hfk]; rfl)
              have hnm : (⟨(nameOf 6).toArray⟩ : ByteArray) = ⟨#[100, 101, 108, 101, 116, 101]⟩ := rfl
              rw [hnm]
              obtain ⟨DB, hDB, hDz, qD⟩ := DecDB
              have d0 : (DB x.r).data.toList = decS x.r := hDB _
              have z0 : ((DB x.r).size : Int) ≤ 21 := hDz _ hr1 hr2
              obtain ⟨E1, e1⟩ : ∃ E : ByteArray, (⟨#[32]⟩ : ByteArray) ++ (DB x.r) = E := ⟨_, rfl⟩
              have s1 : (E1.size : Int) ≤ 22 := by have t := congrArg ByteArray.size e1; rw [ByteArray.size_append, sp1] at t; omega
              obtain ⟨S, hSS⟩ : ∃ S : ByteArray, (⟨#[100, 101, 108, 101, 116, 101]⟩ : ByteArray) ++ E1 = S := ⟨_, rfl⟩
              have hSz : (S.size : Int) ≤ 31 := by have t := congrArg ByteArray.size hSS; rw [ByteArray.size_append, show (⟨#[100, 101, 108, 101, 116, 101]⟩ : ByteArray).size = 6 from rfl] at t; omega
              have hS : S.data.toList = spellD f (op8 x) := by
                rw [← hSS, hff]
                simp only [← e1, ByteArray.data_append, Array.toList_append, d0]
                first | rfl | simp [spellD, joinB, sayD, getF, op8, List.append_assoc]
              replace d0 := hid d0
              replace hS := hid hS
              clear hDB hDz
              clear hff hnm hk hk1 hk8 hfk h
              have c1 : wc.cell? ⟨n₀, 1, none⟩ = some (.int .i64 x.r) := cell_blk (i := 1) hX rfl
              go_wp2_with (fail)
              refine (qD.out _ (by assumption) (by assumption) _).mono ?_
              rintro e w2 ⟨rfl, b2⟩
              have hX2 := (Kept.of_below b2 0).same _ _ hX (.inl rfl)
              have hB2 := hB.trans (b2.mono (by have := hB.size; omega))
              go_wp2_with (fail)
              go_meet
              case rel => exact ⟨S, rfl, hS.out, by omega, hX2, hB2⟩
            · obtain rfl : kk = 7 := by omega
              have hff : f = (7, [99, 111, 108, 108, 101, 99, 116], []) := eq_of_form hf (by rw [hfk]; rfl)
              have hnm : (⟨(nameOf 7).toArray⟩ : ByteArray) = ⟨#[99, 111, 108, 108, 101, 99, 116]⟩ := rfl
              rw [hnm]
              have hS : (⟨#[99, 111, 108, 108, 101, 99, 116]⟩ : ByteArray).data.toList = spellD f (op8 x) := by rw [hff]; rfl
              clear hff hnm hk hk1 hk8 hfk h
              replace hS := hid hS
              go_wp2_with (fail)
              go_meet
              case rel => exact ⟨_, rfl, hS.out, by decide, hX, hB⟩
            · obtain rfl : kk = 8 := by omega
              have hff : f = (8, [115, 116, 97, 116], []) := eq_of_form hf (by rw [hfk]; rfl)
              have hnm : (⟨(nameOf 8).toArray⟩ : ByteArray) = ⟨#[115, 116, 97, 116]⟩ := rfl
              rw [hnm]
              have hS : (⟨#[115, 116, 97, 116]⟩ : ByteArray).data.toList = spellD f (op8 x) := by rw [hff]; rfl
              clear hff hnm hk hk1 hk8 hfk h
              replace hS := hid hS
              go_wp2_with (fail)
              go_meet
              case rel => exact ⟨_, rfl, hS.out, by decide, hX, hB⟩
          case rest =>
            obtain ⟨S, rfl, hS, hSz, hX, hB⟩ := hcut
            replace hS := hid hS
            clear hr1 ho1 hn1 hw1 hh1 ht1 hc1 hi1 hr2 ho2 hn2 hw2 hh2 ht2 hc2 hi2
            have cL := hid (rLine_any S wc (by omega))
            obtain ⟨GB, hGB⟩ : ∃ b, (lineS S.data.toList).isSome = b := ⟨_, rfl⟩
            rw [hGB] at cL
            replace hGB := hid hGB
            go_wp2_with (fail)
            refine cL.out.mono ?_
            rintro e w2 ⟨y, rfl, hy, b2⟩
            replace hy := hid hy
            have B2 := hB.trans (b2.mono (by have := hB.size; omega))
            have a2 := (Kept.of_below b2 0).same _ _ hX (.inl rfl)
            obtain ⟨n2, hn2'⟩ : ∃ n, w2.heap.size = n := ⟨_, rfl⟩
            have g2 := World.alloc_heap_new w2 (.cells (gotC y GB) 31)
            rw [hn2'] at g2
            have a3 := (Kept.alloc 0 w2 (.cells (gotC y GB) 31)).same _ _ a2 (.inl rfl)
            have B3 := B2.alloc (by have := B2.size; omega) (.cells (gotC y GB) 31)
            have y0 : (w2.alloc (.cells (gotC y GB) 31)).cell? ⟨n2, 0, none⟩ = some (.int .i64 y.k) := cell_blk (i := 0) g2 rfl
            have y1 : (w2.alloc (.cells (gotC y GB) 31)).cell? ⟨n2, 1, none⟩ = some (.int .i64 y.r) := cell_blk (i := 1) g2 rfl
            have y2 : (w2.alloc (.cells (gotC y GB) 31)).cell? ⟨n2, 2, none⟩ = some (.int .i64 y.o) := cell_blk (i := 2) g2 rfl
            have y3 : (w2.alloc (.cells (gotC y GB) 31)).cell? ⟨n2, 3, none⟩ = some (.int .i64 y.n) := cell_blk (i := 3) g2 rfl
            have y4 : (w2.alloc (.cells (gotC y GB) 31)).cell? ⟨n2, 4, none⟩ = some (.string y.s) := cell_blk (i := 4) g2 rfl
            have y5 : (w2.alloc (.cells (gotC y GB) 31)).cell? ⟨n2, 5, none⟩ = some (.int .i64 y.w) := cell_blk (i := 5) g2 rfl
            have y6 : (w2.alloc (.cells (gotC y GB) 31)).cell? ⟨n2, 6, none⟩ = some (.int .i64 y.h) := cell_blk (i := 6) g2 rfl
            have y7 : (w2.alloc (.cells (gotC y GB) 31)).cell? ⟨n2, 7, none⟩ = some (.int .i64 y.t) := cell_blk (i := 7) g2 rfl
            have y8 : (w2.alloc (.cells (gotC y GB) 31)).cell? ⟨n2, 8, none⟩ = some (.int .i64 y.c) := cell_blk (i := 8) g2 rfl
            have y9 : (w2.alloc (.cells (gotC y GB) 31)).cell? ⟨n2, 9, none⟩ = some (.int .i64 y.i) := cell_blk (i := 9) g2 rfl
            have y10 : (w2.alloc (.cells (gotC y GB) 31)).cell? ⟨n2, 10, none⟩ = some (.bool GB) := cell_blk (i := 10) g2 rfl
            have x0 : (w2.alloc (.cells (gotC y GB) 31)).cell? ⟨n₀, 0, none⟩ = some (.int .i64 x.k) := cell_blk (i := 0) a3 rfl
            have x1 : (w2.alloc (.cells (gotC y GB) 31)).cell? ⟨n₀, 1, none⟩ = some (.int .i64 x.r) := cell_blk (i := 1) a3 rfl
            have x2 : (w2.alloc (.cells (gotC y GB) 31)).cell? ⟨n₀, 2, none⟩ = some (.int .i64 x.o) := cell_blk (i := 2) a3 rfl
            have x3 : (w2.alloc (.cells (gotC y GB) 31)).cell? ⟨n₀, 3, none⟩ = some (.int .i64 x.n) := cell_blk (i := 3) a3 rfl
            have x4 : (w2.alloc (.cells (gotC y GB) 31)).cell? ⟨n₀, 4, none⟩ = some (.string x.s) := cell_blk (i := 4) a3 rfl
            have x5 : (w2.alloc (.cells (gotC y GB) 31)).cell? ⟨n₀, 5, none⟩ = some (.int .i64 x.w) := cell_blk (i := 5) a3 rfl
            have x6 : (w2.alloc (.cells (gotC y GB) 31)).cell? ⟨n₀, 6, none⟩ = some (.int .i64 x.h) := cell_blk (i := 6) a3 rfl
            have x7 : (w2.alloc (.cells (gotC y GB) 31)).cell? ⟨n₀, 7, none⟩ = some (.int .i64 x.t) := cell_blk (i := 7) a3 rfl
            have x8 : (w2.alloc (.cells (gotC y GB) 31)).cell? ⟨n₀, 8, none⟩ = some (.int .i64 x.c) := cell_blk (i := 8) a3 rfl
            have x9 : (w2.alloc (.cells (gotC y GB) 31)).cell? ⟨n₀, 9, none⟩ = some (.int .i64 x.i) := cell_blk (i := 9) a3 rfl
            clear cL b2 a2 g2 a3 B2 hX hB
            unfold gotC at B3 y0 y1 y2 y3 y4 y5 y6 y7 y8 y9 y10 x0 x1 x2 x3 x4 x5 x6 x7 x8 x9 ⊢
            go_upto_region 16 with (fail)
            obtain ⟨nb, hnb⟩ : ∃ b : Bool, (!(GB && sameB y x)) = b := ⟨_, rfl⟩
            obtain ⟨W3, hW3⟩ : ∃ W : World, W = w2.alloc (.cells #[.int .i64 y.k, .int .i64 y.r, .int .i64 y.o, .int .i64 y.n, .string y.s, .int .i64 y.w, .int .i64 y.h, .int .i64 y.t, .int .i64 y.c, .int .i64 y.i, .bool GB] 31) := ⟨_, rfl⟩
            rw [← hW3] at B3 y0 y1 y2 y3 y4 y5 y6 y7 y8 y9 y10 x0 x1 x2 x3 x4 x5 x6 x7 x8 x9 ⊢
            replace hW3 := hid hW3
            go_cut [112] (fun c wx => c = .bool nb ∧ wx = W3)
            case first =>
              clear hSz B3 hn₀ hn2'
              replace hnb := hid hnb
              cases GB
              · go_wp2_with (fail)
                go_meet
                case rel => exact ⟨by rw [← hnb.out]; rfl, rfl⟩
              · by_cases hxy : y = x
                · subst hxy
                  go_wp2_with (fail)
                  go_meet
                  case rel => exact ⟨by rw [← hnb.out]; simp [sameB], rfl⟩
                · go_wp2_with (fail)
                  all_goals go_meet
                  all_goals (case rel => exact ⟨by rw [← hnb.out]; simp_all [sameB, Lib.toList_data], rfl⟩)
            case rest =>
              obtain ⟨rfl, rfl⟩ := hcut
              clear y0 y1 y2 y3 y4 y5 y6 y7 y8 y9 y10 x0 x1 x2 x3 x4 x5 x6 x7 x8 x9
              have hans : nb = !decide (lineS S.data.toList = some (op8 x)) := by
                rw [← hnb, ← hGB.out]
                cases e : lineS S.data.toList with
                | none => simp
                | some z =>
                  have h2 : op8 y = z := by rw [hy.out, e]; rfl
                  rw [Option.isSome_some, Bool.true_and, ← h2]
                  congr 1
                  rw [Bool.eq_iff_iff, sameB_iff, decide_eq_true_iff]
                  simp
              have hAns : ansT f (op8 x) = if nb = true then [] else S.data.toList := by
                unfold ansT
                rw [← hS.out, hans]
                have h9 : (op8 x).src.length ≤ 240 := by show x.s.data.toList.length ≤ 240; rw [size8]; omega
                by_cases e : lineS S.data.toList = some (op8 x)
                · rw [if_pos ⟨h9, e⟩]; simp [e]
                · rw [if_neg (fun h => e h.2)]; simp [e]
              clear hans hnb hy hGB hS
              cases nb
              · replace hAns : ansT f (op8 x) = S.data.toList := hAns
                replace hAns := hid hAns
                go_wp2_with (fail)
                go_ret
                first | exact ⟨by rw [hAns.out, toB_self]; rfl, hn₀ ▸ B3⟩ | exact ⟨by rw [hAns.out, toB_self]; rfl, B3⟩
              · replace hAns : ansT f (op8 x) = [] := hAns
                replace hAns := hid hAns
                go_wp2_with (fail)
                go_ret
                first | exact ⟨by rw [hAns.out]; rfl, hn₀ ▸ B3⟩ | exact ⟨by rw [hAns.out]; rfl, B3⟩
end Go.Proofs.YtkmnmigpnbehaaaDoor
