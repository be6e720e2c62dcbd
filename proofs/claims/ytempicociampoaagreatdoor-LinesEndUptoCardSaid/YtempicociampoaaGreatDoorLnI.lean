/- The walk of search: the best of all ways (printed by gen_lni.py). -/
import Derived.Test.YtempicociampoaaGreatDoorJ0
import Derived.Test.YtempicociampoaaGreatDoorLnG
import Derived.Test.YtempicociampoaaGreatDoorJ17
import Derived.Test.YtempicociampoaaGreatDoorJ10
import Derived.Laws.MakeOwn
namespace Go.Proofs.YtempicociampoaaGreatDoor
open Go.RowKit Go.Shelf Go.Lib

/-- the best way, if there is one, is answered -/
def FoundW (c : Option Wy) (lo : Nat) (e : Ending) (W : World) : Prop := ∃ (r : Value × Int × Int × Bool) (G : Nat), e = .returned (.agg (enc4 r).toArray) ∧ RowOk W G r c ∧ lo ≤ G
theorem infoB_parts : ∃ i0, Tryz.prog.info? 86 = some i0 ∧ i0.zero = some (.agg #[.slice none 0 0, .int .i64 0, .int .i64 0, .bool false]) ∧ i0.size = 4 ∧ i0.bytes = 48 := by
 have h : (Tryz.prog.info? 86).map (fun i => (i.zero, i.size, i.bytes)) = some (some (.agg #[.slice none 0 0, .int .i64 0, .int .i64 0, .bool false]), 4, 48) := by kernel_rfl
 obtain ⟨i0, h1, h2⟩ := Option.map_eq_some_iff.1 h
 simp only [Prod.mk.injEq] at h2
 exact ⟨i0, h1, h2.1, h2.2.1, h2.2.2⟩
theorem four_one (p : Option Addr) (m c : Nat) (a b : Int) (d : Bool) : (#[.slice p m c, .int .i64 a, .int .i64 b, .bool d] : Array Value).all (·.oneCell') = true := all_oneCell_toArray (cs := [.slice p m c, .int .i64 a, .int .i64 b, .bool d]) (fun v h => by
 simp only [List.mem_cons, List.not_mem_nil, or_false] at h
 rcases h with rfl | rfl | rfl | rfl <;> rfl)
section
variable {l : List It} {p : Option Addr} {cap : Nat} {wd tol : Int}
set_option maxRecDepth 100000 in
set_option maxHeartbeats 8000000 in
theorem search_any (all : Bool) (w : World) (hl : Sl w 6 encIt (.slice p l.length cap) l) (hle : l.length ≤ 600) (hok : ∀ x ∈ l, x.ok) (hwd : 0 ≤ wd ∧ wd ≤ 10000) :
  Calls Tryz.prog 43 #[.agg (parV (.slice p l.length cap) wd tol), .bool all] w fun e w' => FoundW (bestW l wd tol all (placesL l)) w.heap.size e w' ∧ Below w.heap.size w w' := by
 obtain ⟨i0, hi, hz0, hz1, hz2⟩ := infoN_parts
 obtain ⟨ib, hib, hy0, hy1, hy2⟩ := infoB_parts
 obtain ⟨n₀, hn₀⟩ : ∃ n, w.heap.size = n := ⟨_, rfl⟩
 rw [hn₀]
 have cL := hid (fun (W : World) (h : Below n₀ w W) => (Kept.of_below (hn₀ ▸ h : Below w.heap.size w W) 0).sl hl)
 obtain ⟨k0, hk0⟩ := places_two l
 have hpl := places_len l
 have hbl : (brk l).length ≤ l.length + 1 := by
  have := brks_len l l.length
  unfold brk; rw [List.length_append, List.length_singleton]; omega
 have hPlo := places_up l
 have hP0 := places_zero l
 have hcb := fun k i j v (h : curF l wd tol all (placesL l) k i j = some v) => curF_bd h
 have hcs := fun k i hi => curF_step l wd tol all (placesL l) k i hi
 have hcl := fun k (hk : (placesL l).length = k + 1) => curF_last l wd tol all (placesL l) hk
 have hcn := curF_next l wd tol all (placesL l)
 have hPe : placesL l = -1 :: brk l := rfl
 obtain ⟨PL, hPL⟩ : ∃ y, placesL l = y := ⟨_, rfl⟩
 rw [hPL] at hk0 hpl hPlo hP0 hcb hcs hcl hcn hPe ⊢
 clear hPL
 replace hPe := hid hPe
 replace hcs := hid hcs
 replace hcb := hid hcb
 replace hcl := hid hcl
 replace hcn := hid hcn
 replace hPlo := hid hPlo
 replace hP0 := hid hP0
 obtain ⟨L, hL⟩ : ∃ y, l.length = y := ⟨_, rfl⟩
 obtain ⟨N, hN⟩ : ∃ y, PL.length = y := ⟨_, rfl⟩
 rw [hN] at hk0 hpl hcl hPlo
 obtain ⟨W1, hW1⟩ : ∃ W : World, W = (w.alloc (.cells #[.slice p L cap, .int .i64 wd, .int .i64 tol] 82)).alloc (.cells #[.slice none 0 0, .int .i64 0, .int .i64 0, .bool false] 86) := ⟨_, rfl⟩
 have z1 : (w.alloc (.cells #[.slice p L cap, .int .i64 wd, .int .i64 tol] 82)).heap.size = n₀ + 1 := by rw [World.size_alloc, hn₀]
 have zz : W1.heap.size = n₀ + 1 + 1 := by rw [hW1, World.size_alloc, z1]
 have g0 : W1.heap[n₀]? = some (.cells #[.slice p L cap, .int .i64 wd, .int .i64 tol] 82 (0, 0)) := by
  rw [hW1]
  refine (Kept.alloc 0 _ _).same _ _ ?_ (.inl rfl)
  rw [← hn₀]; exact World.alloc_heap_new w _
 have g1 : W1.heap[n₀ + 1]? = some (.cells #[.slice none 0 0, .int .i64 0, .int .i64 0, .bool false] 86 (0, 0)) := by rw [hW1, ← z1]; exact World.alloc_heap_new _ _
 have B1 : Below n₀ w W1 := by rw [hW1, ← hn₀]; exact ((Below.refl _ w).alloc (Nat.le_refl _) _).alloc (by simp) _
 have c0 : W1.cell? ⟨n₀, 0, none⟩ = some (.slice p L cap) := cell_blk (i := 0) g0 rfl
 have cM := hid (fun (W : World) (h : Below n₀ w W) => MBreaks_any l p cap W (cL.out W h) (by omega) hok)
 rw [hL] at cM
 unfold parV
 rw [hL]
 go_enter Tryz.func43, Tryz.ntmps43
 go_upto_region 1 with (fail)
 rw [← hW1]
 clear hW1
 try simp only [hn₀]
 go_wp2_with (fail)
 have gA : (W1.alloc (.cells #[.int .i64 (-1)] 3)).heap[n₀ + 1 + 1]? = some (.cells #[.int .i64 (-1)] 3 (0, 0)) := by rw [← zz]; exact World.alloc_heap_new W1 _
 have BA : Below n₀ w (W1.alloc (.cells #[.int .i64 (-1)] 3)) := B1.alloc (by omega) _
 have gA0 := (Kept.alloc 0 W1 (.cells #[.int .i64 (-1)] 3)).same _ _ g0 (.inl rfl)
 have gA1 := (Kept.alloc 0 W1 (.cells #[.int .i64 (-1)] 3)).same _ _ g1 (.inl rfl)
 have zA : (W1.alloc (.cells #[.int .i64 (-1)] 3)).heap.size = n₀ + 1 + 1 + 1 := by rw [World.size_alloc, zz]
 refine (cM.out _ BA).mono ?_
 obtain ⟨W2, hW2⟩ : ∃ W : World, W = W1.alloc (.cells #[.int .i64 (-1)] 3) := ⟨_, rfl⟩
 rw [← hW2] at gA gA0 gA1 BA zA ⊢
 clear hW2 g0 g1 B1 zz cM
 rintro r w3 ⟨v3, rfl, o3, b3⟩
 have gB := (Kept.of_below b3 0).same _ _ gA (.inl rfl)
 have gB0 := (Kept.of_below b3 0).same _ _ gA0 (.inl rfl)
 have gB1 := (Kept.of_below b3 0).same _ _ gA1 (.inl rfl)
 have BB := BA.trans (b3.mono (by omega))
 have oB := own_lit1 gB (show n₀ + 1 + 1 ≤ n₀ + 1 + 1 by omega)
 have sB := sl_of_owns (enc := encI) (fun _ _ => rfl) o3
 have hzB : W2.heap.size ≤ w3.heap.size := b3.size
 obtain ⟨p3, c3, rfl, -, hm3⟩ := owns_shape o3
 obtain ⟨BL, hBL⟩ : ∃ y, brk l = y := ⟨_, rfl⟩
 rw [hBL] at o3 sB hbl hpl hPe ⊢
 obtain ⟨LBL, hLBL⟩ : ∃ y, BL.length = y := ⟨_, rfl⟩
 rw [hLBL] at hbl hpl ⊢
 clear gA gA0 gA1 BA b3 o3
 go_upto_region 2 with (at_builtin; go_must (refine wpList_append_sl rfl _ _ 50 rfl (n₀ + 1 + 1) 3 i0 (.int .i64 0) 1 8 Tryz.underlying50 hi hz0 hz1 hz2 rfl (by decide) _ _ _ rfl oB encI _ BL (by rw [hLBL]; rfl) sB (encI_enc _) (by unfold maxLen; omega) (by omega) (by omega) ?_; intro v9 w9 o9 hg9 n9))
 replace hg9 : w3.grownBy w9 (some (n₀ + 1 + 1)) := hg9
 have BC := BB.grown hg9 (by omega) (fun j e9 => by obtain rfl := Option.some.inj e9; omega)
 have gC0 := (hg9.block n₀ (by omega) (fun e => by have := Option.some.inj e; omega)).trans gB0
 have gC1 := (hg9.block (n₀ + 1) (by omega) (fun e => by have := Option.some.inj e; omega)).trans gB1
 have oP : w9.ownsRow (n₀ + 1 + 1) 3 1 v9 (LBL + 1) (PL.flatMap encI) := by
  have h := o9
  rw [show 1 + BL.length = LBL + 1 by omega] at h
  rw [hPe.out]
  exact h
 have hz9 : n₀ + 1 + 1 < w9.heap.size := by have := hg9.size; omega
 obtain ⟨pb, pc, rfl⟩ := ownsRow_succ oP
 have hpb9 : pb < w9.heap.size := own_lt2 oP rfl
 rw [← hpl] at oP ⊢
 have sP : Sl w9 1 encI (.slice (some ⟨pb, 0, none⟩) PL.length pc) PL := by
  have h := oP
  rw [← hN] at h
  exact sl_of_owns (fun _ _ => rfl) h
 clear o9 n9 hg9 gB gB0 gB1 BB oB sB hzB oP hPe hBL zA
 have hNl : N ≤ 700 := by omega
 have hmk : ∀ W : World, (Instr.makeSlice 118 (.int .i64 (N : Int)) (.int .i64 (N : Int))).run Tryz.prog W = .ok (.slice (some ⟨W.heap.size, 0, none⟩) N N) (W.alloc (.cells ((List.replicate N zeroR).flatMap enc4).toArray 86)) := fun W => by
  have hr := run_make (P := Tryz.prog) W 118 86 ib (.agg #[.slice none 0 0, .int .i64 0, .int .i64 0, .bool false]) Tryz.underlying118 hib hy0 .i64 .i64 (N : Int) (N : Int) (by omega) (by omega) (by rw [hy2]; omega) (by omega)
  simp only [Int.toNat_natCast] at hr
  rw [hr, hy1, ← made4 N]
  rfl
 have hN2 : 2 ≤ N := by omega
 clear hpl hLBL hbl
 replace hk0 := hid hk0
 go_upto_region 3 with (fail)
 replace hk0 := hk0.out
 clear hmk
 have gG := World.alloc_heap_new w9 (.cells ((List.replicate N zeroR).flatMap enc4).toArray 86)
 have BD := BC.alloc (by omega) (.cells ((List.replicate N zeroR).flatMap enc4).toArray 86)
 have k9 := Kept.alloc 0 w9 (.cells ((List.replicate N zeroR).flatMap enc4).toArray 86)
 have gD0 := k9.same _ _ gC0 (.inl rfl)
 have gD1 := k9.same _ _ gC1 (.inl rfl)
 have sD := k9.sl sP
 obtain ⟨W4, hW4⟩ : ∃ W : World, W = w9.alloc (.cells ((List.replicate N zeroR).flatMap enc4).toArray 86) := ⟨_, rfl⟩
 obtain ⟨G, hG⟩ : ∃ n, w9.heap.size = n := ⟨_, rfl⟩
 rw [← hW4, hG] at gG
 rw [← hW4] at BD gD0 gD1 sD ⊢
 rw [hG] at hz9 hpb9 ⊢
 clear hW4 k9 BC gC0 gC1 sP hG
 have hR0 := rows_first (l := l) (wd := wd) (tol := tol) (all := all) (pl := PL) (G := G) (M := k0) (W := W4) (by rw [← hk0]; exact gG) (by unfold maxLen; omega)
 have hc3 : W4.cell? ⟨G, 3, none⟩ = some (.bool false) := cell_blk gG (by rw [hk0]; rfl)
 have hf3 : W4.frozen? ⟨G, 3, none⟩ = false := frozen_blk gG
 have hF0 : Fx n₀ pb pc PL #[.slice p L cap, .int .i64 wd, .int .i64 tol] #[.slice none 0 0, .int .i64 0, .int .i64 0, .bool false] w (W4.setCells G 3 [.bool true]) := Fx.set ⟨BD, gD0, gD1, sD⟩ (by omega) (by omega)
 rw [← hk0] at hR0
 clear gG BD gD0 gD1 sD
 replace hk0 := hid hk0
 go_upto_region 4 with (fail)
 obtain ⟨W6, hW6⟩ : ∃ W : World, W = W4.setCell ⟨G, 3, none⟩ (.bool true) := ⟨_, rfl⟩
 replace hF0 : Fx n₀ pb pc PL #[.slice p L cap, .int .i64 wd, .int .i64 tol] #[.slice none 0 0, .int .i64 0, .int .i64 0, .bool false] w W6 := by rw [hW6]; exact hF0
 rw [← hW6] at hR0 ⊢
 clear hW6 hc3 hf3
 replace hN := hid hN
 go_wp2_with (fail)
 go_loopw [7] (fun kv W => ∃ (k K : Nat) (rows : List (Value × Int × Int × Bool)), k + 1 = K ∧ K ≤ N ∧ kv = .int .i64 (K : Int) ∧ Rows W G N rows (curF l wd tol all PL k 0) ∧ Fx n₀ pb pc PL #[.slice p L cap, .int .i64 wd, .int .i64 tol] #[.slice none 0 0, .int .i64 0, .int .i64 0, .bool false] w W) (fun kv _ => N - (RowKit.intOf kv).toNat)
 case atStart => exact ⟨0, 1, _, rfl, by omega, rfl, hR0, hF0⟩
 case round =>
  clear hR0 hF0
  obtain ⟨k, K, rows, hkK, hKN0, rfl, hR, hF⟩ := hrel
  replace hkK := hid hkK
  by_cases hKN : K < N
  ·have hKI : (K : Int) < (N : Int) := by omega
   obtain ⟨t, ht⟩ : ∃ t : Nat, PL.getD K 0 = (t : Int) := ⟨(PL.getD K 0).toNat, by have := hPlo.out K (by have := hkK.out; omega) hKN; omega⟩
   have htl : t ≤ l.length := by have := hPlo.out K (by have := hkK.out; omega) hKN; omega
   have hPK : PL[K]? = some (t : Int) := by rw [← ht, List.getD_eq_getElem?_getD, List.getElem?_eq_getElem (by rw [hN.out]; exact hKN)]; rfl
   replace ht := hid ht
   obtain ⟨wo, hwo⟩ : ∃ W : World, W = wr := ⟨_, rfl⟩
   subst hwo
   go_wp2_with (fail)
   go_loopw [29] (fun iv W => ∃ (i : Nat) (rows : List (Value × Int × Int × Bool)), i ≤ K ∧ iv = .int .i64 (i : Int) ∧ Rows W G N rows (curF l wd tol all PL k i) ∧ Fx n₀ pb pc PL #[.slice p L cap, .int .i64 wd, .int .i64 tol] #[.slice none 0 0, .int .i64 0, .int .i64 0, .bool false] w W) (fun iv _ => K - (RowKit.intOf iv).toNat)
   case atStart => exact ⟨0, rows, by omega, rfl, hR, hF⟩
   case round =>
    clear hR hF rows
    obtain ⟨i, rows, hi, rfl, hR, hF⟩ := hrel
    by_cases hiK : i < K
    ·skip
     have hiI : (i : Int) < (K : Int) := by omega
     have hiN : i < N := by omega
     have hiNI : (i : Int) < (N : Int) := by omega
     obtain ⟨n, hn⟩ : ∃ n, PL.getD i 0 = n := ⟨_, rfl⟩
     have hPi : PL[i]? = some n := by rw [← hn, List.getD_eq_getElem?_getD, List.getElem?_eq_getElem (by rw [hN.out]; exact hiN)]; rfl
     have hn64 : w64 n := by
      rw [← hn]
      by_cases h0 : i = 0
      ·subst h0; rw [hP0.out]; constructor <;> omega
      ·have := hPlo.out i (by omega) hiN
       constructor <;> omega
     have hstepF := hcs.out k i (by have := hkK.out; omega)
     rw [hkK.out, hn, ht.out, Int.toNat_natCast] at hstepF
     have hoff := hid (fun (j : Nat) (e : j ≠ K) => curF_off (l := l) (wd := wd) (tol := tol) (all := all) (pl := PL) (i := i + 1) (i' := i) (show j ≠ k + 1 by have := hkK.out; omega))
     replace hn := hid hn
     obtain ⟨r, hr, hokr⟩ := hR.get hiN
     obtain ⟨c, hc⟩ : ∃ c, curF l wd tol all PL k i i = c := ⟨_, rfl⟩
     have hcbu := fun u (h : c = some u) => hcb.out k i i u (hc.trans h)
     rw [hc] at hokr hstepF
     replace hc := hid hc
     replace hstepF := hid hstepF
     go_upto_region 10 with (fail)
     obtain ⟨W1, hW1⟩ : ∃ W : World, W = wr := ⟨_, rfl⟩
     subst hW1
     have bd : Below W1.heap.size W1 W1.drew := (Below.refl _ W1).drewN 1
     have hR5 := hR.below bd
     have hF5 := hF.mono bd
     have hst : (fun W => Below W1.drew.heap.size W1.drew W) W1.drew := Below.refl _ _
     have kP := hid (fun W (h : Below W1.drew.heap.size W1.drew W) => range_blk (cs := [Value.slice p L cap, .int .i64 wd, .int .i64 tol]) ((hF5.mono h).par))
     have kI := hid (fun W (h : Below W1.drew.heap.size W1.drew W) => (show W.cell? ⟨pb, i, none⟩ = some (.int .i64 n) from sl_cell1 (hF5.mono h).pl hPi))
     have kK := hid (fun W (h : Below W1.drew.heap.size W1.drew W) => (show W.cell? ⟨pb, K, none⟩ = some (.int .i64 (t : Int)) from sl_cell1 (hF5.mono h).pl hPK))
     cases c with
     | none =>
      obtain rfl := hokr
      have kA := hid (fun W (h : Below W1.drew.heap.size W1.drew W) => (show W.cell? ⟨G, i * 4 + 3, none⟩ = some (.bool false) from (hR5.below h).range hr 3 _ rfl))
      have hstep := hid (show curF l wd tol all PL k (i + 1) K = curF l wd tol all PL k i K from hstepF.out)
      clear hcbu hstepF hc
      refine wp_region_held_drew (S := (fun W => Below W1.drew.heap.size W1.drew W)) (by kernel_rfl) hst (fun hHeld => ?_)
      generalize W1.drew = W5 at *
      refine tkH 0 (some 32) ?_ rfl (Or.inl ⟨by rfl, ?_⟩) ?_; rotate_left
      ·intro w hSw; (try dsimp only at hSw); go_simp <;> with_reducible rfl
      try simp only [Act.put, aS, aZ, aC]
      refine tkH 1 (some 33) ?_ rfl (Or.inl ⟨by rfl, ?_⟩) ?_; rotate_left
      ·intro w hSw; (try dsimp only at hSw); go_simp <;> with_reducible rfl
      try simp only [Act.put, aS, aZ, aC]
      refine tkH 2 (some 34) ?_ rfl (Or.inl ⟨by rfl, ?_⟩) ?_; rotate_left
      ·intro w hSw; (try dsimp only at hSw); go_simp <;> with_reducible rfl
      try simp only [Act.put, aS, aZ, aC]
      refine tkH 3 (some 35) ?_ rfl (Or.inl ⟨by rfl, ?_⟩) ?_; rotate_left
      ·intro w hSw; (try dsimp only at hSw); go_simp <;> with_reducible rfl
      try simp only [Act.put, aS, aZ, aC]
      refine tkH 4 (some 36) ?_ rfl (Or.inl ⟨by rfl, ?_⟩) ?_; rotate_left
      ·intro w hSw; (try dsimp only at hSw); have h9 := kA.out _ hSw; go_simp <;> with_reducible rfl
      try simp only [Act.put, aS, aZ, aC]
      refine tkH 5 (some 37) ?_ rfl (Or.inl ⟨by rfl, ?_⟩) ?_; rotate_left
      ·intro w hSw; (try dsimp only at hSw); go_simp <;> with_reducible rfl
      try simp only [Act.put, aS, aZ, aC]
      refine tkH 6 (some 38) ?_ rfl (Or.inl ⟨by rfl, ?_⟩) ?_; rotate_left
      ·intro w hSw; (try dsimp only at hSw); go_simp <;> with_reducible rfl
      try simp only [Act.put, aS, aZ, aC]
      refine tkH 7 (some 39) _ rfl (Or.inr ⟨by rfl, rfl⟩) ?_
      try simp only [Act.put, aS, aZ, aC]
      refine tkH 8 (some 40) _ rfl (Or.inr ⟨by rfl, rfl⟩) ?_
      try simp only [Act.put, aS, aZ, aC]
      refine tkH 9 (some 41) _ rfl (Or.inr ⟨by rfl, rfl⟩) ?_
      try simp only [Act.put, aS, aZ, aC]
      refine tkH 10 (some 42) _ rfl (Or.inr ⟨by rfl, rfl⟩) ?_
      try simp only [Act.put, aS, aZ, aC]
      refine tkH 11 (some 43) _ rfl (Or.inr ⟨by rfl, rfl⟩) ?_
      try simp only [Act.put, aS, aZ, aC]
      refine tkH 12 (some 44) _ rfl (Or.inr ⟨by rfl, rfl⟩) ?_
      try simp only [Act.put, aS, aZ, aC]
      refine tkH 13 (some 45) _ rfl (Or.inr ⟨by rfl, rfl⟩) ?_
      try simp only [Act.put, aS, aZ, aC]
      refine tkH 14 (some 46) _ rfl (Or.inr ⟨by rfl, rfl⟩) ?_
      try simp only [Act.put, aS, aZ, aC]
      refine tkH 15 (some 47) _ rfl (Or.inr ⟨by rfl, rfl⟩) ?_
      try simp only [Act.put, aS, aZ, aC]
      refine tkH 16 (some 48) _ rfl (Or.inr ⟨by rfl, rfl⟩) ?_
      try simp only [Act.put, aS, aZ, aC]
      refine tkH 17 (some 49) _ rfl (Or.inr ⟨by rfl, rfl⟩) ?_
      try simp only [Act.put, aS, aZ, aC]
      refine tkH 18 (some 50) ?_ rfl (Or.inl ⟨by rfl, ?_⟩) ?_; rotate_left
      ·intro w hSw; (try dsimp only at hSw); go_simp <;> with_reducible rfl
      try simp only [Act.put, aS, aZ, aC]
      refine wpAnyH_done (by kernel_rfl) ?_ _
      have hR2 := hR5.below hHeld
      have hF2 := hF5.mono hHeld
      clear hHeld hR5 hF5 hst kA kP kI kK hR hF
      have hR3 := hR2.congr (f' := curF l wd tol all PL k (i + 1)) (fun j => by
       by_cases e : j = K
       ·rw [e]; exact hstep.out
       ·exact hoff.out j e)
      replace hR3 := hid hR3
      clear hR2
      go_wp2_with (fail)
      exact ⟨⟨i + 1, rows, by omega, by go_num, hR3.out, hF2⟩, by simp [RowKit.intOf]; omega⟩
     | some u =>
      obtain ⟨rv, r2⟩ := r
      obtain ⟨hr2, hsu, hgu⟩ := hokr
      dsimp only at hr2 hsu hgu
      subst hr2
      obtain ⟨rq, rm, rfl, -⟩ := hsu.shape
      have hub := Wy.bd_mono (hcbu u rfl) (show k + 1 ≤ 1000 by have := hkK.out; omega)
      obtain ⟨LB, hLB⟩ : ∃ y, u.br.length = y := ⟨_, rfl⟩
      rw [hLB] at hr hsu hgu
      have kA := hid (fun W (h : Below W1.drew.heap.size W1.drew W) => (show W.cell? ⟨G, i * 4 + 3, none⟩ = some (.bool true) from (hR5.below h).range hr 3 _ rfl))
      have cB := hid (fun W (h : Below W1.drew.heap.size W1.drew W) => boxed_any (l := l) (p := p) (cap := cap) (wd := wd) (tol := tol) n t W (cL.out W (hF5.mono h).below) (by omega) hn64)
      obtain ⟨bx, hbx⟩ : ∃ b, decide (firstL l n < t) = b := ⟨_, rfl⟩
      rw [hbx, hL] at cB
      unfold parV at cB
      replace hbx := hid hbx
      clear hcbu hsu
      refine wp_region_held_drew (S := (fun W => Below W1.drew.heap.size W1.drew W)) (by kernel_rfl) hst (fun hHeld => ?_)
      generalize W1.drew = W5 at *
      refine tkH 0 (some 32) ?_ rfl (Or.inl ⟨by rfl, ?_⟩) ?_; rotate_left
      ·intro w hSw; (try dsimp only at hSw); go_simp <;> with_reducible rfl
      try simp only [Act.put, aS, aZ, aC]
      refine tkH 1 (some 33) ?_ rfl (Or.inl ⟨by rfl, ?_⟩) ?_; rotate_left
      ·intro w hSw; (try dsimp only at hSw); go_simp <;> with_reducible rfl
      try simp only [Act.put, aS, aZ, aC]
      refine tkH 2 (some 34) ?_ rfl (Or.inl ⟨by rfl, ?_⟩) ?_; rotate_left
      ·intro w hSw; (try dsimp only at hSw); go_simp <;> with_reducible rfl
      try simp only [Act.put, aS, aZ, aC]
      refine tkH 3 (some 35) ?_ rfl (Or.inl ⟨by rfl, ?_⟩) ?_; rotate_left
      ·intro w hSw; (try dsimp only at hSw); go_simp <;> with_reducible rfl
      try simp only [Act.put, aS, aZ, aC]
      refine tkH 4 (some 36) ?_ rfl (Or.inl ⟨by rfl, ?_⟩) ?_; rotate_left
      ·intro w hSw; (try dsimp only at hSw); have h9 := kA.out _ hSw; go_simp <;> with_reducible rfl
      try simp only [Act.put, aS, aZ, aC]
      refine tkH 5 (some 37) ?_ rfl (Or.inl ⟨by rfl, ?_⟩) ?_; rotate_left
      ·intro w hSw; (try dsimp only at hSw); go_simp <;> with_reducible rfl
      try simp only [Act.put, aS, aZ, aC]
      refine tkH 6 (some 38) ?_ rfl (Or.inl ⟨by rfl, ?_⟩) ?_; rotate_left
      ·intro w hSw; (try dsimp only at hSw); go_simp <;> with_reducible rfl
      try simp only [Act.put, aS, aZ, aC]
      refine tkH 7 (some 39) _ rfl (yieldsIf_load_mid (by rfl) 82 _ rfl n₀ 0 rfl [Value.slice p L cap, .int .i64 wd, .int .i64 tol] _ (fun w h => kP.out w h) Tryz.underlying82 rfl (by kernel_rfl)) ?_
      try simp only [Act.put, aS, aZ, aC]
      refine tkH 8 (some 40) ?_ rfl (Or.inl ⟨by rfl, ?_⟩) ?_; rotate_left
      ·intro w hSw; (try dsimp only at hSw); go_simp <;> with_reducible rfl
      try simp only [Act.put, aS, aZ, aC]
      refine tkH 9 (some 41) ?_ rfl (Or.inl ⟨by rfl, ?_⟩) ?_; rotate_left
      ·intro w hSw; (try dsimp only at hSw); go_simp <;> with_reducible rfl
      try simp only [Act.put, aS, aZ, aC]
      refine tkH 10 (some 42) ?_ rfl (Or.inl ⟨by rfl, ?_⟩) ?_; rotate_left
      ·intro w hSw; (try dsimp only at hSw); go_simp <;> with_reducible rfl
      try simp only [Act.put, aS, aZ, aC]
      refine tkH 11 (some 43) ?_ rfl (Or.inl ⟨by rfl, ?_⟩) ?_; rotate_left
      ·intro w hSw; (try dsimp only at hSw); have h9 := kI.out _ hSw; go_simp <;> with_reducible rfl
      try simp only [Act.put, aS, aZ, aC]
      refine tkH 12 (some 44) ?_ rfl (Or.inl ⟨by rfl, ?_⟩) ?_; rotate_left
      ·intro w hSw; (try dsimp only at hSw); go_simp <;> with_reducible rfl
      try simp only [Act.put, aS, aZ, aC]
      refine tkH 13 (some 45) ?_ rfl (Or.inl ⟨by rfl, ?_⟩) ?_; rotate_left
      ·intro w hSw; (try dsimp only at hSw); go_simp <;> with_reducible rfl
      try simp only [Act.put, aS, aZ, aC]
      refine tkH 14 (some 46) ?_ rfl (Or.inl ⟨by rfl, ?_⟩) ?_; rotate_left
      ·intro w hSw; (try dsimp only at hSw); go_simp <;> with_reducible rfl
      try simp only [Act.put, aS, aZ, aC]
      refine tkH 15 (some 47) ?_ rfl (Or.inl ⟨by rfl, ?_⟩) ?_; rotate_left
      ·intro w hSw; (try dsimp only at hSw); have h9 := kK.out _ hSw; go_simp <;> with_reducible rfl
      try simp only [Act.put, aS, aZ, aC]
      refine wpAnyH_ready (rs := [16]) (by kernel_rfl) (by simp) ?_
      refine AllReadyH.cons (o := ⟨some 48, _, _, _, _, _⟩) rfl (fun K hK => ?_) AllReadyH.nil
      go_simp
      refine (cB.out _ hHeld).mono ?_
      rintro r w7 ⟨rfl, b7⟩
      have b8 := hHeld.trans (b7.mono hHeld.size)
      clear hHeld b7
      refine hK.out _ _ (b8) (fun hHeld => ?_)
      clear hK K
      try simp only [Act.put, aS, aZ, aC]
      refine tkH 17 (some 49) ?_ rfl (Or.inl ⟨by rfl, ?_⟩) ?_; rotate_left
      ·intro w hSw; (try dsimp only at hSw); go_simp <;> with_reducible rfl
      try simp only [Act.put, aS, aZ, aC]
      refine tkH 18 (some 50) ?_ rfl (Or.inl ⟨by rfl, ?_⟩) ?_; rotate_left
      ·intro w hSw; (try dsimp only at hSw); go_simp <;> with_reducible rfl
      try simp only [Act.put, aS, aZ, aC]
      refine wpAnyH_done (by kernel_rfl) ?_ _
      have hR7 := hR5.below hHeld
      have hF7 := hF5.mono hHeld
      clear hHeld hR5 hF5 hst kA kP kI kK cB bd
      cases bx with
      | false =>
       have hstep := hid (show curF l wd tol all PL k (i + 1) K = curF l wd tol all PL k i K from by
        rw [hstepF.out]
        unfold tryW
        dsimp only
        rw [if_neg (of_decide_eq_false hbx.out)])
       have hR2 := hR7
       have hF2 := hF7
       clear hR7 hF7 hR hF
       have hR3 := hR2.congr (f' := curF l wd tol all PL k (i + 1)) (fun j => by
        by_cases e : j = K
        ·rw [e]; exact hstep.out
        ·exact hoff.out j e)
       replace hR3 := hid hR3
       clear hR2
       go_wp2_with (fail)
       exact ⟨⟨i + 1, rows, by omega, by go_num, hR3.out, hF2⟩, by simp [RowKit.intOf]; omega⟩
      | true =>
       go_upto_region 11 with (fail)
       obtain ⟨W7, hW7⟩ : ∃ W : World, W = w7 := ⟨_, rfl⟩
       subst hW7
       have bd : Below W7.heap.size W7 W7.drew := (Below.refl _ W7).drewN 1
       have hR8 := hR7.below bd
       have hF8 := hF7.mono bd
       have hst : (fun W => Below W7.drew.heap.size W7.drew W) W7.drew := Below.refl _ _
       have kP := hid (fun W (h : Below W7.drew.heap.size W7.drew W) => range_blk (cs := [Value.slice p L cap, .int .i64 wd, .int .i64 tol]) ((hF8.mono h).par))
       have kI := hid (fun W (h : Below W7.drew.heap.size W7.drew W) => (show W.cell? ⟨pb, i, none⟩ = some (.int .i64 n) from sl_cell1 (hF8.mono h).pl hPi))
       have kK := hid (fun W (h : Below W7.drew.heap.size W7.drew W) => (show W.cell? ⟨pb, K, none⟩ = some (.int .i64 (t : Int)) from sl_cell1 (hF8.mono h).pl hPK))
       have kU := hid (fun W (h : Below W7.drew.heap.size W7.drew W) => (show W.rangeAt G (i * 4) [Value.slice rq LB rm, .int .i64 u.tot, .int .i64 u.ov] from fun j x hj => (hR8.below h).range hr j x (by
        match j, hj with
        | 0, hj => exact hj
        | 1, hj => exact hj
        | 2, hj => exact hj)))
       have cW := hid (fun W (h : Below W7.drew.heap.size W7.drew W) => with_any (l := l) (p := p) (cap := cap) (wd := wd) (tol := tol) u (.slice rq LB rm) n t W (cL.out W (hF8.mono h).below) (by omega) hn64 htl hok hwd (by
        have h9 := (hR8.below h).row i _ hr
        rw [hc.out] at h9
        exact h9.2.1) hub)
       have hGs : G < W7.drew.heap.size := by
        obtain ⟨csG, hgG, -⟩ := hR8.blk
        exact (Array.getElem?_eq_some_iff.1 hgG).1
       obtain ⟨M, hM⟩ : ∃ M, moreW u (liS l wd tol n t) t = M := ⟨_, rfl⟩
       obtain ⟨mb, hmb⟩ : ∃ b, (liS l wd tol n t).may = b := ⟨_, rfl⟩
       have hML : M.br.length = LB + 1 := by rw [← hM, ← hLB]; exact List.length_append
       have hMb : u.br ++ [(t : Int)] = M.br := by rw [← hM]; rfl
       have hs : curF l wd tol all PL k (i + 1) K = if (all || mb) = true then offerW (curF l wd tol all PL k i K) M else curF l wd tol all PL k i K := by
        rw [hstepF.out]
        unfold tryW
        dsimp only
        rw [if_pos (of_decide_eq_true hbx.out), hM, hmb]
       have hstep1 := hid (fun (h : (all || mb) = true) => hs.trans (if_pos h))
       have hstep0 := hid (fun (h : (all || mb) = false) => hs.trans (if_neg (by rw [h]; simp)))
       rw [hM, hmb, hMb, hLB, hL] at cW
       unfold wayV parV at cW
       replace hML := hid hML
       clear hs hM hmb hMb hR7 hF7 bd hstepF hbx hR hF
       refine wp_region_held_drew (S := (fun W => Below W7.drew.heap.size W7.drew W)) (by kernel_rfl) hst (fun hHeld => ?_)
       generalize W7.drew = W8 at *
       refine tkH 0 (some 52) _ rfl (yieldsIf_load_mid (by rfl) 82 _ rfl n₀ 0 rfl [Value.slice p L cap, .int .i64 wd, .int .i64 tol] _ (fun w h => kP.out w h) Tryz.underlying82 rfl (by kernel_rfl)) ?_
       try simp only [Act.put, aS, aZ, aC]
       refine tkH 1 (some 53) ?_ rfl (Or.inl ⟨by rfl, ?_⟩) ?_; rotate_left
       ·intro w hSw; (try dsimp only at hSw); go_simp <;> with_reducible rfl
       try simp only [Act.put, aS, aZ, aC]
       refine tkH 2 (some 54) ?_ rfl (Or.inl ⟨by rfl, ?_⟩) ?_; rotate_left
       ·intro w hSw; (try dsimp only at hSw); go_simp <;> with_reducible rfl
       try simp only [Act.put, aS, aZ, aC]
       refine tkH 3 (some 55) ?_ rfl (Or.inl ⟨by rfl, ?_⟩) ?_; rotate_left
       ·intro w hSw; (try dsimp only at hSw); go_simp <;> with_reducible rfl
       try simp only [Act.put, aS, aZ, aC]
       refine tkH 4 (some 56) ?_ rfl (Or.inl ⟨by rfl, ?_⟩) ?_; rotate_left
       ·intro w hSw; (try dsimp only at hSw); go_simp <;> with_reducible rfl
       try simp only [Act.put, aS, aZ, aC]
       refine tkH 5 (some 57) _ rfl (yieldsIf_load_mid (by rfl) 52 _ rfl G (i * 4) rfl [Value.slice rq LB rm, .int .i64 u.tot, .int .i64 u.ov] _ (fun w h => kU.out w h) Tryz.underlying52 rfl (by kernel_rfl)) ?_
       try simp only [Act.put, aS, aZ, aC]
       refine tkH 6 (some 58) ?_ rfl (Or.inl ⟨by rfl, ?_⟩) ?_; rotate_left
       ·intro w hSw; (try dsimp only at hSw); go_simp <;> with_reducible rfl
       try simp only [Act.put, aS, aZ, aC]
       refine tkH 7 (some 59) ?_ rfl (Or.inl ⟨by rfl, ?_⟩) ?_; rotate_left
       ·intro w hSw; (try dsimp only at hSw); go_simp <;> with_reducible rfl
       try simp only [Act.put, aS, aZ, aC]
       refine tkH 8 (some 60) ?_ rfl (Or.inl ⟨by rfl, ?_⟩) ?_; rotate_left
       ·intro w hSw; (try dsimp only at hSw); go_simp <;> with_reducible rfl
       try simp only [Act.put, aS, aZ, aC]
       refine tkH 9 (some 61) ?_ rfl (Or.inl ⟨by rfl, ?_⟩) ?_; rotate_left
       ·intro w hSw; (try dsimp only at hSw); have h9 := kI.out _ hSw; go_simp <;> with_reducible rfl
       try simp only [Act.put, aS, aZ, aC]
       refine tkH 10 (some 62) ?_ rfl (Or.inl ⟨by rfl, ?_⟩) ?_; rotate_left
       ·intro w hSw; (try dsimp only at hSw); go_simp <;> with_reducible rfl
       try simp only [Act.put, aS, aZ, aC]
       refine tkH 11 (some 63) ?_ rfl (Or.inl ⟨by rfl, ?_⟩) ?_; rotate_left
       ·intro w hSw; (try dsimp only at hSw); go_simp <;> with_reducible rfl
       try simp only [Act.put, aS, aZ, aC]
       refine tkH 12 (some 64) ?_ rfl (Or.inl ⟨by rfl, ?_⟩) ?_; rotate_left
       ·intro w hSw; (try dsimp only at hSw); go_simp <;> with_reducible rfl
       try simp only [Act.put, aS, aZ, aC]
       refine tkH 13 (some 65) ?_ rfl (Or.inl ⟨by rfl, ?_⟩) ?_; rotate_left
       ·intro w hSw; (try dsimp only at hSw); have h9 := kK.out _ hSw; go_simp <;> with_reducible rfl
       try simp only [Act.put, aS, aZ, aC]
       refine wpAnyH_ready (rs := [14, 18]) (by kernel_rfl) (by simp) ?_
       refine AllReadyH.cons (o := ⟨some 66, _, _, _, _, _⟩) rfl (fun K hK => ?_) ?_
       ·go_simp
        refine (cW.out _ hHeld).mono ?_
        rintro r w9 ⟨v9, rfl, o9, b9⟩
        have b8 := hHeld.trans (b9.mono hHeld.size)
        replace o9 := own_mono o9 hHeld.size
        clear hHeld b9
        refine hK.out _ _ (b8) (fun hHeld => ?_)
        clear hK K
        try simp only [Act.put, aS, aZ, aC]
        refine tkH 15 (some 51) ?_ rfl (Or.inl ⟨by rfl, ?_⟩) ?_; rotate_left
        ·intro w hSw; (try dsimp only at hSw); go_simp <;> with_reducible rfl
        try simp only [Act.put, aS, aZ, aC]
        refine tkH 16 (some 67) ?_ rfl (Or.inl ⟨by rfl, ?_⟩) ?_; rotate_left
        ·intro w hSw; (try dsimp only at hSw); go_simp <;> with_reducible rfl
        try simp only [Act.put, aS, aZ, aC]
        refine tkH 17 (some 68) ?_ rfl (Or.inl ⟨by rfl, ?_⟩) ?_; rotate_left
        ·intro w hSw; (try dsimp only at hSw); go_simp <;> with_reducible rfl
        try simp only [Act.put, aS, aZ, aC]
        refine wpAnyH_ready (rs := [18]) (by kernel_rfl) (by simp) ?_
        refine AllReadyH.cons (o := ⟨some 9, _, _, _, _, _⟩) rfl (fun K hK => ?_) AllReadyH.nil
        go_simp
        obtain ⟨nb, hn9⟩ : ∃ n, w9.heap.size = n := ⟨_, rfl⟩
        have g9 := World.alloc_heap_new w9 (.cells #[.slice none 0 0, .int .i64 0, .int .i64 0] 52)
        rw [hn9] at g9
        have bA := hHeld.alloc hHeld.size (.cells #[.slice none 0 0, .int .i64 0, .int .i64 0] 52)
        have kZ := Kept.alloc 0 w9 (.cells #[.slice none 0 0, .int .i64 0, .int .i64 0] 52)
        have hzb : W8.heap.size ≤ nb := by rw [← hn9]; exact hHeld.size
        replace o9 := kZ.owns o9
        try rw [hn9]
        obtain ⟨x9, hx9⟩ : ∃ W : World, W = w9.alloc (.cells #[.slice none 0 0, .int .i64 0, .int .i64 0] 52) := ⟨_, rfl⟩
        rw [← hx9] at g9 bA o9 ⊢
        clear hx9 kZ hHeld hn9
        refine hK.out _ _ (bA) (fun hHeld => ?_)
        clear hK K
        try simp only [Act.put, aS, aZ, aC]
        refine wpAnyH_ready (rs := [19]) (by kernel_rfl) (by simp) ?_
        refine AllReadyH.cons (o := ⟨none, _, _, _, _, _⟩) rfl (fun K hK => ?_) AllReadyH.nil
        refine (if_pos (by rfl)).mpr ?_
        obtain ⟨p9, c9, rfl, -, -⟩ := owns_shape o9
        refine wp_store_mid 52 _ _ rfl nb 0 #[.slice p9 (LB + 1) c9, .int .i64 M.tot, .int .i64 M.ov] rfl rfl (there_blk g9 rfl) (by kernel_rfl) (way_one _ _ _ _ _) ?_
        refine hK.out _ _ (below_setG hzb _ _ _ hHeld) (fun hHeld => ?_)
        clear hK K
        try simp only [Act.put]
        refine tkH 20 (some 10) ?_ rfl (Or.inl ⟨by rfl, ?_⟩) ?_; rotate_left
        ·intro w hSw; (try dsimp only at hSw); go_simp <;> with_reducible rfl
        try simp only [Act.put, aS, aZ, aC]
        refine wpAnyH_done (by kernel_rfl) ?_ _
        have uX := (Upd.refl g9).setCells (#[.slice p9 (LB + 1) c9, .int .i64 M.tot, .int .i64 M.ov] : Array Value).toList rfl
        have o10 := upd_own2 uX (own_ty2 o9 g9 (by decide)) o9
        have g10 := uX.here
        rw [Array.toArray_toList] at g10
        obtain ⟨W9, hW9⟩ : ∃ W : World, W = x9.setCells nb 0 (#[.slice p9 (LB + 1) c9, .int .i64 M.tot, .int .i64 M.ov] : Array Value).toList := ⟨_, rfl⟩
        have hB9 : Below W8.heap.size W8 W9 := by rw [hW9]; exact hHeld
        rw [← hW9] at o10 g10 ⊢
        clear hW9 uX o9 g9 hHeld hst cW kU kP kI kK
        have s9 : Sl W9 1 encI (.slice p9 (LB + 1) c9) M.br := by
         have h := o10
         rw [← hML.out] at h ⊢
         exact sl_of_owns (fun _ _ => rfl) h
        have hv9 : ∀ a n m, (Value.slice p9 (LB + 1) c9) = .slice (some a) n m → G < a.block := fun a n m e => by
         rcases o10.2 with ⟨e9, -⟩ | ⟨g', cap', cur, e9, hb9, -⟩
         ·rw [e] at e9; cases e9
         ·rw [e] at e9; cases e9; dsimp only; omega
        have hnG : G < nb := by omega
        clear o10
        cases mb with
        | true =>
         have hstep := hid (hstep1.out (by simp))
         clear hstep0 hstep1
         go_upto_region 13 with (fail)
         have bd9 : Below W9.heap.size W9 W9.drew := (Below.refl _ W9).drewN 1
         have hR6 := (hR8.below hB9).below bd9
         have hF6 := (hF8.mono hB9).mono bd9
         have s10 := (Kept.of_below bd9 0).sl s9
         have hqv : W9.drew.rangeAt nb 0 [Value.slice p9 (LB + 1) c9, .int .i64 M.tot, .int .i64 M.ov] := range_blk (cs := [Value.slice p9 (LB + 1) c9, .int .i64 M.tot, .int .i64 M.ov]) g10
         obtain ⟨csG, hgG, hsG⟩ := hR6.blk
         obtain ⟨rK, hrK, hokK⟩ := hR6.get hKN
         have cO := hid (offer_any G (K * 4) M (.slice p9 (LB + 1) c9) (curF l wd tol all PL k i K) rK csG 86 W9.drew s10 (hR6.range hrK) hokK hgG (by rw [hsG]; omega))
         rw [show wayV (.slice p9 (LB + 1) c9) M = #[.slice p9 (LB + 1) c9, .int .i64 M.tot, .int .i64 M.ov] from rfl] at cO
         clear hgG hsG hrK hokK hR8 hF8 hB9 s9 g10 bd9
         refine wp_region_held_drew (S := (fun W => W.rangeAt nb 0 [Value.slice p9 (LB + 1) c9, .int .i64 M.tot, .int .i64 M.ov])) (by kernel_rfl) hqv (fun hHeld => ?_)
         generalize W9.drew = W10 at *
         refine tkH 0 (some 73) ?_ rfl (Or.inl ⟨by rfl, ?_⟩) ?_; rotate_left
         ·intro w hSw; (try dsimp only at hSw); go_simp <;> with_reducible rfl
         try simp only [Act.put, aS, aZ, aC]
         refine tkH 1 (some 74) ?_ rfl (Or.inl ⟨by rfl, ?_⟩) ?_; rotate_left
         ·intro w hSw; (try dsimp only at hSw); go_simp <;> with_reducible rfl
         try simp only [Act.put, aS, aZ, aC]
         refine tkH 2 (some 75) ?_ rfl (Or.inl ⟨by rfl, ?_⟩) ?_; rotate_left
         ·intro w hSw; (try dsimp only at hSw); go_simp <;> with_reducible rfl
         try simp only [Act.put, aS, aZ, aC]
         refine tkH 3 (some 76) _ rfl (yieldsIf_load_mid (by rfl) 52 _ rfl nb 0 rfl [Value.slice p9 (LB + 1) c9, .int .i64 M.tot, .int .i64 M.ov] _ (fun w h => h) Tryz.underlying52 rfl (by kernel_rfl)) ?_
         try simp only [Act.put, aS, aZ, aC]
         refine wpAnyH_ready (rs := [4]) (by kernel_rfl) (by simp) ?_
         refine AllReadyH.cons (o := ⟨some 77, _, _, _, _, _⟩) rfl (fun K hK => ?_) AllReadyH.nil
         go_simp
         refine cO.out.mono ?_
         rintro r w7 ⟨⟨yv, rfl⟩, U, bU, hU⟩
         have hq7 : w7.rangeAt nb 0 [Value.slice p9 (LB + 1) c9, .int .i64 M.tot, .int .i64 M.ov] := by
          have q := (Kept.of_below bU 0).range hqv
          rcases hU with ⟨-, rfl⟩ | ⟨-, rfl⟩
          ·intro j x hj
           have h9 := q j x hj
           unfold World.cell? at h9 ⊢
           rw [setCells_off _ _ _ _ (show nb ≠ G by omega)]
           exact h9
          ·exact q
         clear hHeld
         refine hK.out _ _ (hq7) (fun hHeld => ?_)
         clear hK K
         try simp only [Act.put, aS, aZ, aC]
         refine wpAnyH_done (by kernel_rfl) ?_ _
         clear hHeld hqv cO hq7
         rcases hU with ⟨ho, rfl⟩ | ⟨ho, rfl⟩
         ·have hR8 := (hR6.below bU).set (f' := curF l wd tol all PL k (i + 1)) hKN (v := .slice p9 (LB + 1) c9) ((Kept.of_below bU 0).sl s10) hv9 (by rw [hstep.out]; exact ho) (fun j e => hoff.out j e)
          have hF8 := (hF6.mono bU).set (G := G) (o := K * 4) (vs := enc4 (.slice p9 (LB + 1) c9, M.tot, M.ov, true)) (by omega) (by omega)
          replace hR8 := hid hR8
          replace hF8 := hid hF8
          clear hR6 hF6 bU ho
          go_wp2_with (fail)
          exact ⟨⟨i + 1, _, by omega, by go_num, hR8.out, hF8.out⟩, by simp [RowKit.intOf]; omega⟩
         ·have hR8 := (hR6.below bU).congr (f' := curF l wd tol all PL k (i + 1)) (fun j => by
           by_cases e : j = K
           ·rw [e, hstep.out]; exact ho
           ·exact hoff.out j e)
          have hF8 := hF6.mono bU
          replace hR8 := hid hR8
          replace hF8 := hid hF8
          clear hR6 hF6 bU ho
          go_wp2_with (fail)
          exact ⟨⟨i + 1, rows, by omega, by go_num, hR8.out, hF8.out⟩, by simp [RowKit.intOf]; omega⟩
        | false =>
         cases all with
         | true =>
          have hstep := hid (hstep1.out (by simp))
          clear hstep0 hstep1
          go_upto_region 13 with (fail)
          have bd9 : Below W9.heap.size W9 W9.drew := (Below.refl _ W9).drewN 1
          have hR6 := (hR8.below hB9).below bd9
          have hF6 := (hF8.mono hB9).mono bd9
          have s10 := (Kept.of_below bd9 0).sl s9
          have hqv : W9.drew.rangeAt nb 0 [Value.slice p9 (LB + 1) c9, .int .i64 M.tot, .int .i64 M.ov] := range_blk (cs := [Value.slice p9 (LB + 1) c9, .int .i64 M.tot, .int .i64 M.ov]) g10
          obtain ⟨csG, hgG, hsG⟩ := hR6.blk
          obtain ⟨rK, hrK, hokK⟩ := hR6.get hKN
          have cO := hid (offer_any G (K * 4) M (.slice p9 (LB + 1) c9) (curF l wd tol true PL k i K) rK csG 86 W9.drew s10 (hR6.range hrK) hokK hgG (by rw [hsG]; omega))
          rw [show wayV (.slice p9 (LB + 1) c9) M = #[.slice p9 (LB + 1) c9, .int .i64 M.tot, .int .i64 M.ov] from rfl] at cO
          clear hgG hsG hrK hokK hR8 hF8 hB9 s9 g10 bd9
          refine wp_region_held_drew (S := (fun W => W.rangeAt nb 0 [Value.slice p9 (LB + 1) c9, .int .i64 M.tot, .int .i64 M.ov])) (by kernel_rfl) hqv (fun hHeld => ?_)
          generalize W9.drew = W10 at *
          refine tkH 0 (some 73) ?_ rfl (Or.inl ⟨by rfl, ?_⟩) ?_; rotate_left
          ·intro w hSw; (try dsimp only at hSw); go_simp <;> with_reducible rfl
          try simp only [Act.put, aS, aZ, aC]
          refine tkH 1 (some 74) ?_ rfl (Or.inl ⟨by rfl, ?_⟩) ?_; rotate_left
          ·intro w hSw; (try dsimp only at hSw); go_simp <;> with_reducible rfl
          try simp only [Act.put, aS, aZ, aC]
          refine tkH 2 (some 75) ?_ rfl (Or.inl ⟨by rfl, ?_⟩) ?_; rotate_left
          ·intro w hSw; (try dsimp only at hSw); go_simp <;> with_reducible rfl
          try simp only [Act.put, aS, aZ, aC]
          refine tkH 3 (some 76) _ rfl (yieldsIf_load_mid (by rfl) 52 _ rfl nb 0 rfl [Value.slice p9 (LB + 1) c9, .int .i64 M.tot, .int .i64 M.ov] _ (fun w h => h) Tryz.underlying52 rfl (by kernel_rfl)) ?_
          try simp only [Act.put, aS, aZ, aC]
          refine wpAnyH_ready (rs := [4]) (by kernel_rfl) (by simp) ?_
          refine AllReadyH.cons (o := ⟨some 77, _, _, _, _, _⟩) rfl (fun K hK => ?_) AllReadyH.nil
          go_simp
          refine cO.out.mono ?_
          rintro r w7 ⟨⟨yv, rfl⟩, U, bU, hU⟩
          have hq7 : w7.rangeAt nb 0 [Value.slice p9 (LB + 1) c9, .int .i64 M.tot, .int .i64 M.ov] := by
           have q := (Kept.of_below bU 0).range hqv
           rcases hU with ⟨-, rfl⟩ | ⟨-, rfl⟩
           ·intro j x hj
            have h9 := q j x hj
            unfold World.cell? at h9 ⊢
            rw [setCells_off _ _ _ _ (show nb ≠ G by omega)]
            exact h9
           ·exact q
          clear hHeld
          refine hK.out _ _ (hq7) (fun hHeld => ?_)
          clear hK K
          try simp only [Act.put, aS, aZ, aC]
          refine wpAnyH_done (by kernel_rfl) ?_ _
          clear hHeld hqv cO hq7
          rcases hU with ⟨ho, rfl⟩ | ⟨ho, rfl⟩
          ·have hR8 := (hR6.below bU).set (f' := curF l wd tol true PL k (i + 1)) hKN (v := .slice p9 (LB + 1) c9) ((Kept.of_below bU 0).sl s10) hv9 (by rw [hstep.out]; exact ho) (fun j e => hoff.out j e)
           have hF8 := (hF6.mono bU).set (G := G) (o := K * 4) (vs := enc4 (.slice p9 (LB + 1) c9, M.tot, M.ov, true)) (by omega) (by omega)
           replace hR8 := hid hR8
           replace hF8 := hid hF8
           clear hR6 hF6 bU ho
           go_wp2_with (fail)
           exact ⟨⟨i + 1, _, by omega, by go_num, hR8.out, hF8.out⟩, by simp [RowKit.intOf]; omega⟩
          ·have hR8 := (hR6.below bU).congr (f' := curF l wd tol true PL k (i + 1)) (fun j => by
            by_cases e : j = K
            ·rw [e, hstep.out]; exact ho
            ·exact hoff.out j e)
           have hF8 := hF6.mono bU
           replace hR8 := hid hR8
           replace hF8 := hid hF8
           clear hR6 hF6 bU ho
           go_wp2_with (fail)
           exact ⟨⟨i + 1, rows, by omega, by go_num, hR8.out, hF8.out⟩, by simp [RowKit.intOf]; omega⟩
         | false =>
          have hstep := hid (hstep0.out (by rfl))
          clear hstep0 hstep1
          have hR2 := hR8.below hB9
          have hF2 := hF8.mono hB9
          clear hR8 hF8 hB9 s9 g10
          have hR3 := hR2.congr (f' := curF l wd tol false PL k (i + 1)) (fun j => by
           by_cases e : j = K
           ·rw [e]; exact hstep.out
           ·exact hoff.out j e)
          replace hR3 := hid hR3
          clear hR2
          go_wp2_with (fail)
          exact ⟨⟨i + 1, rows, by omega, by go_num, hR3.out, hF2⟩, by simp [RowKit.intOf]; omega⟩
       refine AllReadyH.cons (o := ⟨some 9, _, _, _, _, _⟩) rfl (fun K hK => ?_) AllReadyH.nil
       go_simp
       obtain ⟨nb, hn9⟩ : ∃ n, W8.heap.size = n := ⟨_, rfl⟩
       have g9 := World.alloc_heap_new W8 (.cells #[.slice none 0 0, .int .i64 0, .int .i64 0] 52)
       rw [hn9] at g9
       have bA := hHeld.alloc hHeld.size (.cells #[.slice none 0 0, .int .i64 0, .int .i64 0] 52)
       have kZ := Kept.alloc 0 W8 (.cells #[.slice none 0 0, .int .i64 0, .int .i64 0] 52)
       have hzb : W8.heap.size ≤ nb := by rw [← hn9]; exact hHeld.size
       try rw [hn9]
       obtain ⟨x9, hx9⟩ : ∃ W : World, W = W8.alloc (.cells #[.slice none 0 0, .int .i64 0, .int .i64 0] 52) := ⟨_, rfl⟩
       rw [← hx9] at g9 bA  ⊢
       clear hx9 kZ hHeld hn9
       refine hK.out _ _ (bA) (fun hHeld => ?_)
       clear hK K
       try simp only [Act.put, aS, aZ, aC]
       refine wpAnyH_ready (rs := [14]) (by kernel_rfl) (by simp) ?_
       refine AllReadyH.cons (o := ⟨some 66, _, _, _, _, _⟩) rfl (fun K hK => ?_) AllReadyH.nil
       go_simp
       refine (cW.out _ hHeld).mono ?_
       rintro r w9 ⟨v9, rfl, o9, b9⟩
       have b8 := hHeld.trans (b9.mono hHeld.size)
       replace g9 := (Kept.of_below b9 0).same _ _ g9 (.inl rfl)
       replace o9 := own_mono o9 hHeld.size
       clear hHeld b9
       refine hK.out _ _ (b8) (fun hHeld => ?_)
       clear hK K
       try simp only [Act.put, aS, aZ, aC]
       refine tkH 15 (some 51) ?_ rfl (Or.inl ⟨by rfl, ?_⟩) ?_; rotate_left
       ·intro w hSw; (try dsimp only at hSw); go_simp <;> with_reducible rfl
       try simp only [Act.put, aS, aZ, aC]
       refine tkH 16 (some 67) ?_ rfl (Or.inl ⟨by rfl, ?_⟩) ?_; rotate_left
       ·intro w hSw; (try dsimp only at hSw); go_simp <;> with_reducible rfl
       try simp only [Act.put, aS, aZ, aC]
       refine tkH 17 (some 68) ?_ rfl (Or.inl ⟨by rfl, ?_⟩) ?_; rotate_left
       ·intro w hSw; (try dsimp only at hSw); go_simp <;> with_reducible rfl
       try simp only [Act.put, aS, aZ, aC]
       refine wpAnyH_ready (rs := [19]) (by kernel_rfl) (by simp) ?_
       refine AllReadyH.cons (o := ⟨none, _, _, _, _, _⟩) rfl (fun K hK => ?_) AllReadyH.nil
       refine (if_pos (by rfl)).mpr ?_
       obtain ⟨p9, c9, rfl, -, -⟩ := owns_shape o9
       refine wp_store_mid 52 _ _ rfl nb 0 #[.slice p9 (LB + 1) c9, .int .i64 M.tot, .int .i64 M.ov] rfl rfl (there_blk g9 rfl) (by kernel_rfl) (way_one _ _ _ _ _) ?_
       refine hK.out _ _ (below_setG hzb _ _ _ hHeld) (fun hHeld => ?_)
       clear hK K
       try simp only [Act.put]
       refine tkH 20 (some 10) ?_ rfl (Or.inl ⟨by rfl, ?_⟩) ?_; rotate_left
       ·intro w hSw; (try dsimp only at hSw); go_simp <;> with_reducible rfl
       try simp only [Act.put, aS, aZ, aC]
       refine wpAnyH_done (by kernel_rfl) ?_ _
       have uX := (Upd.refl g9).setCells (#[.slice p9 (LB + 1) c9, .int .i64 M.tot, .int .i64 M.ov] : Array Value).toList rfl
       have o10 := upd_own2 uX (own_ty2 o9 g9 (by decide)) o9
       have g10 := uX.here
       rw [Array.toArray_toList] at g10
       obtain ⟨W9, hW9⟩ : ∃ W : World, W = w9.setCells nb 0 (#[.slice p9 (LB + 1) c9, .int .i64 M.tot, .int .i64 M.ov] : Array Value).toList := ⟨_, rfl⟩
       have hB9 : Below W8.heap.size W8 W9 := by rw [hW9]; exact hHeld
       rw [← hW9] at o10 g10 ⊢
       clear hW9 uX o9 g9 hHeld hst cW kU kP kI kK
       have s9 : Sl W9 1 encI (.slice p9 (LB + 1) c9) M.br := by
        have h := o10
        rw [← hML.out] at h ⊢
        exact sl_of_owns (fun _ _ => rfl) h
       have hv9 : ∀ a n m, (Value.slice p9 (LB + 1) c9) = .slice (some a) n m → G < a.block := fun a n m e => by
        rcases o10.2 with ⟨e9, -⟩ | ⟨g', cap', cur, e9, hb9, -⟩
        ·rw [e] at e9; cases e9
        ·rw [e] at e9; cases e9; dsimp only; omega
       have hnG : G < nb := by omega
       clear o10
       cases mb with
       | true =>
        have hstep := hid (hstep1.out (by simp))
        clear hstep0 hstep1
        go_upto_region 13 with (fail)
        have bd9 : Below W9.heap.size W9 W9.drew := (Below.refl _ W9).drewN 1
        have hR6 := (hR8.below hB9).below bd9
        have hF6 := (hF8.mono hB9).mono bd9
        have s10 := (Kept.of_below bd9 0).sl s9
        have hqv : W9.drew.rangeAt nb 0 [Value.slice p9 (LB + 1) c9, .int .i64 M.tot, .int .i64 M.ov] := range_blk (cs := [Value.slice p9 (LB + 1) c9, .int .i64 M.tot, .int .i64 M.ov]) g10
        obtain ⟨csG, hgG, hsG⟩ := hR6.blk
        obtain ⟨rK, hrK, hokK⟩ := hR6.get hKN
        have cO := hid (offer_any G (K * 4) M (.slice p9 (LB + 1) c9) (curF l wd tol all PL k i K) rK csG 86 W9.drew s10 (hR6.range hrK) hokK hgG (by rw [hsG]; omega))
        rw [show wayV (.slice p9 (LB + 1) c9) M = #[.slice p9 (LB + 1) c9, .int .i64 M.tot, .int .i64 M.ov] from rfl] at cO
        clear hgG hsG hrK hokK hR8 hF8 hB9 s9 g10 bd9
        refine wp_region_held_drew (S := (fun W => W.rangeAt nb 0 [Value.slice p9 (LB + 1) c9, .int .i64 M.tot, .int .i64 M.ov])) (by kernel_rfl) hqv (fun hHeld => ?_)
        generalize W9.drew = W10 at *
        refine tkH 0 (some 73) ?_ rfl (Or.inl ⟨by rfl, ?_⟩) ?_; rotate_left
        ·intro w hSw; (try dsimp only at hSw); go_simp <;> with_reducible rfl
        try simp only [Act.put, aS, aZ, aC]
        refine tkH 1 (some 74) ?_ rfl (Or.inl ⟨by rfl, ?_⟩) ?_; rotate_left
        ·intro w hSw; (try dsimp only at hSw); go_simp <;> with_reducible rfl
        try simp only [Act.put, aS, aZ, aC]
        refine tkH 2 (some 75) ?_ rfl (Or.inl ⟨by rfl, ?_⟩) ?_; rotate_left
        ·intro w hSw; (try dsimp only at hSw); go_simp <;> with_reducible rfl
        try simp only [Act.put, aS, aZ, aC]
        refine tkH 3 (some 76) _ rfl (yieldsIf_load_mid (by rfl) 52 _ rfl nb 0 rfl [Value.slice p9 (LB + 1) c9, .int .i64 M.tot, .int .i64 M.ov] _ (fun w h => h) Tryz.underlying52 rfl (by kernel_rfl)) ?_
        try simp only [Act.put, aS, aZ, aC]
        refine wpAnyH_ready (rs := [4]) (by kernel_rfl) (by simp) ?_
        refine AllReadyH.cons (o := ⟨some 77, _, _, _, _, _⟩) rfl (fun K hK => ?_) AllReadyH.nil
        go_simp
        refine cO.out.mono ?_
        rintro r w7 ⟨⟨yv, rfl⟩, U, bU, hU⟩
        have hq7 : w7.rangeAt nb 0 [Value.slice p9 (LB + 1) c9, .int .i64 M.tot, .int .i64 M.ov] := by
         have q := (Kept.of_below bU 0).range hqv
         rcases hU with ⟨-, rfl⟩ | ⟨-, rfl⟩
         ·intro j x hj
          have h9 := q j x hj
          unfold World.cell? at h9 ⊢
          rw [setCells_off _ _ _ _ (show nb ≠ G by omega)]
          exact h9
         ·exact q
        clear hHeld
        refine hK.out _ _ (hq7) (fun hHeld => ?_)
        clear hK K
        try simp only [Act.put, aS, aZ, aC]
        refine wpAnyH_done (by kernel_rfl) ?_ _
        clear hHeld hqv cO hq7
        rcases hU with ⟨ho, rfl⟩ | ⟨ho, rfl⟩
        ·have hR8 := (hR6.below bU).set (f' := curF l wd tol all PL k (i + 1)) hKN (v := .slice p9 (LB + 1) c9) ((Kept.of_below bU 0).sl s10) hv9 (by rw [hstep.out]; exact ho) (fun j e => hoff.out j e)
         have hF8 := (hF6.mono bU).set (G := G) (o := K * 4) (vs := enc4 (.slice p9 (LB + 1) c9, M.tot, M.ov, true)) (by omega) (by omega)
         replace hR8 := hid hR8
         replace hF8 := hid hF8
         clear hR6 hF6 bU ho
         go_wp2_with (fail)
         exact ⟨⟨i + 1, _, by omega, by go_num, hR8.out, hF8.out⟩, by simp [RowKit.intOf]; omega⟩
        ·have hR8 := (hR6.below bU).congr (f' := curF l wd tol all PL k (i + 1)) (fun j => by
          by_cases e : j = K
          ·rw [e, hstep.out]; exact ho
          ·exact hoff.out j e)
         have hF8 := hF6.mono bU
         replace hR8 := hid hR8
         replace hF8 := hid hF8
         clear hR6 hF6 bU ho
         go_wp2_with (fail)
         exact ⟨⟨i + 1, rows, by omega, by go_num, hR8.out, hF8.out⟩, by simp [RowKit.intOf]; omega⟩
       | false =>
        cases all with
        | true =>
         have hstep := hid (hstep1.out (by simp))
         clear hstep0 hstep1
         go_upto_region 13 with (fail)
         have bd9 : Below W9.heap.size W9 W9.drew := (Below.refl _ W9).drewN 1
         have hR6 := (hR8.below hB9).below bd9
         have hF6 := (hF8.mono hB9).mono bd9
         have s10 := (Kept.of_below bd9 0).sl s9
         have hqv : W9.drew.rangeAt nb 0 [Value.slice p9 (LB + 1) c9, .int .i64 M.tot, .int .i64 M.ov] := range_blk (cs := [Value.slice p9 (LB + 1) c9, .int .i64 M.tot, .int .i64 M.ov]) g10
         obtain ⟨csG, hgG, hsG⟩ := hR6.blk
         obtain ⟨rK, hrK, hokK⟩ := hR6.get hKN
         have cO := hid (offer_any G (K * 4) M (.slice p9 (LB + 1) c9) (curF l wd tol true PL k i K) rK csG 86 W9.drew s10 (hR6.range hrK) hokK hgG (by rw [hsG]; omega))
         rw [show wayV (.slice p9 (LB + 1) c9) M = #[.slice p9 (LB + 1) c9, .int .i64 M.tot, .int .i64 M.ov] from rfl] at cO
         clear hgG hsG hrK hokK hR8 hF8 hB9 s9 g10 bd9
         refine wp_region_held_drew (S := (fun W => W.rangeAt nb 0 [Value.slice p9 (LB + 1) c9, .int .i64 M.tot, .int .i64 M.ov])) (by kernel_rfl) hqv (fun hHeld => ?_)
         generalize W9.drew = W10 at *
         refine tkH 0 (some 73) ?_ rfl (Or.inl ⟨by rfl, ?_⟩) ?_; rotate_left
         ·intro w hSw; (try dsimp only at hSw); go_simp <;> with_reducible rfl
         try simp only [Act.put, aS, aZ, aC]
         refine tkH 1 (some 74) ?_ rfl (Or.inl ⟨by rfl, ?_⟩) ?_; rotate_left
         ·intro w hSw; (try dsimp only at hSw); go_simp <;> with_reducible rfl
         try simp only [Act.put, aS, aZ, aC]
         refine tkH 2 (some 75) ?_ rfl (Or.inl ⟨by rfl, ?_⟩) ?_; rotate_left
         ·intro w hSw; (try dsimp only at hSw); go_simp <;> with_reducible rfl
         try simp only [Act.put, aS, aZ, aC]
         refine tkH 3 (some 76) _ rfl (yieldsIf_load_mid (by rfl) 52 _ rfl nb 0 rfl [Value.slice p9 (LB + 1) c9, .int .i64 M.tot, .int .i64 M.ov] _ (fun w h => h) Tryz.underlying52 rfl (by kernel_rfl)) ?_
         try simp only [Act.put, aS, aZ, aC]
         refine wpAnyH_ready (rs := [4]) (by kernel_rfl) (by simp) ?_
         refine AllReadyH.cons (o := ⟨some 77, _, _, _, _, _⟩) rfl (fun K hK => ?_) AllReadyH.nil
         go_simp
         refine cO.out.mono ?_
         rintro r w7 ⟨⟨yv, rfl⟩, U, bU, hU⟩
         have hq7 : w7.rangeAt nb 0 [Value.slice p9 (LB + 1) c9, .int .i64 M.tot, .int .i64 M.ov] := by
          have q := (Kept.of_below bU 0).range hqv
          rcases hU with ⟨-, rfl⟩ | ⟨-, rfl⟩
          ·intro j x hj
           have h9 := q j x hj
           unfold World.cell? at h9 ⊢
           rw [setCells_off _ _ _ _ (show nb ≠ G by omega)]
           exact h9
          ·exact q
         clear hHeld
         refine hK.out _ _ (hq7) (fun hHeld => ?_)
         clear hK K
         try simp only [Act.put, aS, aZ, aC]
         refine wpAnyH_done (by kernel_rfl) ?_ _
         clear hHeld hqv cO hq7
         rcases hU with ⟨ho, rfl⟩ | ⟨ho, rfl⟩
         ·have hR8 := (hR6.below bU).set (f' := curF l wd tol true PL k (i + 1)) hKN (v := .slice p9 (LB + 1) c9) ((Kept.of_below bU 0).sl s10) hv9 (by rw [hstep.out]; exact ho) (fun j e => hoff.out j e)
          have hF8 := (hF6.mono bU).set (G := G) (o := K * 4) (vs := enc4 (.slice p9 (LB + 1) c9, M.tot, M.ov, true)) (by omega) (by omega)
          replace hR8 := hid hR8
          replace hF8 := hid hF8
          clear hR6 hF6 bU ho
          go_wp2_with (fail)
          exact ⟨⟨i + 1, _, by omega, by go_num, hR8.out, hF8.out⟩, by simp [RowKit.intOf]; omega⟩
         ·have hR8 := (hR6.below bU).congr (f' := curF l wd tol true PL k (i + 1)) (fun j => by
           by_cases e : j = K
           ·rw [e, hstep.out]; exact ho
           ·exact hoff.out j e)
          have hF8 := hF6.mono bU
          replace hR8 := hid hR8
          replace hF8 := hid hF8
          clear hR6 hF6 bU ho
          go_wp2_with (fail)
          exact ⟨⟨i + 1, rows, by omega, by go_num, hR8.out, hF8.out⟩, by simp [RowKit.intOf]; omega⟩
        | false =>
         have hstep := hid (hstep0.out (by rfl))
         clear hstep0 hstep1
         have hR2 := hR8.below hB9
         have hF2 := hF8.mono hB9
         clear hR8 hF8 hB9 s9 g10
         have hR3 := hR2.congr (f' := curF l wd tol false PL k (i + 1)) (fun j => by
          by_cases e : j = K
          ·rw [e]; exact hstep.out
          ·exact hoff.out j e)
         replace hR3 := hid hR3
         clear hR2
         go_wp2_with (fail)
         exact ⟨⟨i + 1, rows, by omega, by go_num, hR3.out, hF2⟩, by simp [RowKit.intOf]; omega⟩
    ·obtain rfl : i = K := by omega
     have hR3 := hR.congr (f' := curF l wd tol all PL i 0) (fun j => by have := hcn.out k j; rwa [hkK.out] at this)
     clear hR
     go_wp2_with (fail)
     exact ⟨⟨i, i + 1, rows, rfl, by omega, by go_num, hR3, hF⟩, by simp [RowKit.intOf]; omega⟩
  ·obtain rfl : K = N := by omega
   have hla := hcl.out k hkK.out.symm
   have hN1 : IntKind.i64.wrap ((K : Int) - 1) = (k : Int) := by have := hkK.out; rw [IntKind.wrap_i64]; omega
   have hkI : (k : Int) < (K : Int) := by have := hkK.out; omega
   obtain ⟨r, hr, hokr⟩ := hR.get (show k < K by have := hkK.out; omega)
   rw [hla] at hokr
   obtain ⟨q, qn, qm, a, b, d, rfl⟩ := hokr.shape
   have hrr := hR.range hr
   have hth : wr.there (n₀ + 1) 0 (#[.slice q qn qm, .int .i64 a, .int .i64 b, .bool d] : Array Value).size := there_blk hF.out rfl
   have uR := (Upd.refl hF.out).setCells (#[.slice q qn qm, .int .i64 a, .int .i64 b, .bool d] : Array Value).toList rfl
   have hRes := uR.here
   rw [Array.toArray_toList] at hRes
   have BR := uR.below hF.below (by omega)
   have okR : RowOk (wr.setCells (n₀ + 1) 0 (#[.slice q qn qm, .int .i64 a, .int .i64 b, .bool d] : Array Value).toList) G (.slice q qn qm, a, b, d) (bestW l wd tol all PL) := by
    cases hbw : bestW l wd tol all PL with
    | none => rw [hbw] at hokr; exact hokr
    | some v =>
     rw [hbw] at hokr
     exact ⟨hokr.1, sl_off hokr.2.1 (fun a n m e => by have := hokr.2.2 a n m e; omega), hokr.2.2⟩
   replace hRes := hid hRes
   replace BR := hid BR
   replace okR := hid okR
   clear hla uR hokr hr hR hF
   go_wp2_with (first | refine wpList_load_mid rfl 86 _ rfl G (k * 4) rfl [Value.slice q qn qm, .int .i64 a, .int .i64 b, .bool d] _ hrr Tryz.underlying86 rfl (by kernel_rfl) ?_ | refine wpList_store_mid rfl 86 _ _ rfl (n₀ + 1) 0 #[.slice q qn qm, .int .i64 a, .int .i64 b, .bool d] rfl rfl hth (by kernel_rfl) (four_one _ _ _ _ _ _) ?_)
   exact outRow (ty := 86) rfl hRes.out rfl rfl (by kernel_rfl) (by kernel_rfl) ⟨⟨(.slice q qn qm, a, b, d), G, rfl, okR.out, by omega⟩, BR.out⟩
end
end Go.Proofs.YtempicociampoaaGreatDoor
