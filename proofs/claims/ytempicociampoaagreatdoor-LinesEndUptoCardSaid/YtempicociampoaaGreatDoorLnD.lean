/- The walk of a line's demerits (printed by gen_lnd.py). -/
import Derived.Test.YtempicociampoaaGreatDoorJ0
import Derived.Test.YtempicociampoaaGreatDoorJ16
import Derived.Test.YtempicociampoaaGreatDoorSetG
import Derived.Deep.RegionHeld3
import Derived.OwnWalk
import Derived.Lib.MinMax
namespace Go.Proofs.YtempicociampoaaGreatDoor
open Go.RowKit Go.Shelf Go.Lib
attribute [-go_sem] Go.Lib.run_max_ints Go.Lib.run_min_ints

theorem upto_nat {t m : Nat} (h : t ≤ m) : upto (t : Int) m = t := by unfold upto; omega
theorem sumC_one (s : Sm) : (sumC s).all (·.oneCell') = true := all_oneCell_toArray (cs := [.int .i64 s.w, .int .i64 s.y, .int .i64 s.z]) (fun v h => by
 rcases List.mem_cons.1 h with rfl | h
 ·rfl
 ·rcases List.mem_cons.1 h with rfl | h
  ·rfl
  ·obtain rfl := List.mem_singleton.1 h; rfl)
section
variable {l : List It} {p : Option Addr} {cap : Nat} {wd tol : Int}
set_option maxRecDepth 100000 in
set_option maxHeartbeats 8000000 in
theorem line_any (n : Int) (t : Nat) (w : World) (hl : Sl w 6 encIt (.slice p l.length cap) l) (hle : l.length ≤ 5000) (hn : w64 n) (ht : t ≤ l.length) (hok : ∀ x ∈ l, x.ok) (hwd : 0 ≤ wd ∧ wd ≤ 10000) :
  Calls Tryz.prog 75 #[.agg (parV (.slice p l.length cap) wd tol), .int .i64 n, .int .i64 t] w fun e w' => e = .returned (.tuple #[.int .i64 (liS l wd tol n t).dem, .bool (liS l wd tol n t).over, .bool (liS l wd tol n t).may]) ∧ Below w.heap.size w w' := by
 have b1 := par_box (p := p) (cap := cap) (wd := wd) (tol := tol) w l.length
 have B1 : Below w.heap.size w (w.alloc (.cells (parV (.slice p l.length cap) wd tol) 82)) := (Below.refl _ w).alloc (Nat.le_refl _) _
 have s1 := (Kept.alloc 0 w (.cells (parV (.slice p l.length cap) wd tol) 82)).sl hl
 obtain ⟨n₀, hn₀⟩ : ∃ n, w.heap.size = n := ⟨_, rfl⟩
 rw [hn₀] at b1 B1 ⊢
 obtain ⟨W1, hW1⟩ : ∃ W : World, W = w.alloc (.cells (parV (.slice p l.length cap) wd tol) 82) := ⟨_, rfl⟩
 rw [← hW1] at b1 B1 s1
 have cM := MLine_any (.slice p l.length cap) l n (t : Int) W1 s1 hle hn ⟨by omega, by omega⟩ hok
 rw [upto_nat ht] at cM
 have hpt : penAt l (t : Int) = isPen l t := by unfold penAt; rw [decide_eq_true (by omega), Bool.true_and, show ((t : Int)).toNat = t by omega]
 obtain ⟨sm, hsm⟩ : ∃ s, lineSm l (firstL l n) t = s := ⟨_, rfl⟩
 have hsb := lineSm_bd l (firstL l n) t
 rw [hsm] at cM hsb
 obtain ⟨⟨x1, x2⟩, ⟨y1, y2⟩, ⟨z1, z2⟩⟩ := hsb
 obtain ⟨d, hd⟩ : ∃ d, wd - sm.w = d := ⟨_, rfl⟩
 have hdw : IntKind.i64.wrap (wd - sm.w) = d := by rw [hd, IntKind.wrap_i64]; omega
 have hlb0 : lbad l wd n t = if t = l.length ∧ 0 ≤ d then (0, true) else badS d sm.y sm.z := by unfold lbad; rw [hsm, hd]
 have cB := hid (fun W => bOf_any d sm.y sm.z W)
 obtain ⟨L, hL⟩ : ∃ x, l.length = x := ⟨_, rfl⟩
 have c0 : W1.cell? ⟨n₀, 0, none⟩ = some (.slice p L cap) := by rw [← hL]; exact cell_blk (i := 0) b1 rfl
 have hi7 : (Tryz.prog.info? 82).map (·.size) = some [Value.slice p L cap, .int .i64 wd, .int .i64 tol].length := by kernel_rfl
 have hz1 : n₀ < W1.heap.size := (Array.getElem?_eq_some_iff.1 b1).1
 replace cM := hid cM
 rw [hL] at cM hW1 hlb0 b1 x2 y2 z2 ht s1 ⊢
 unfold parV at hW1 b1 ⊢
 rw [hL] at hl
 go_enter Tryz.func75, Tryz.ntmps75
 go_upto_region 1 with (fail)
 rw [← hW1]
 clear hW1
 try simp only [hn₀]
 go_wp2_with (fail)
 refine cM.out.mono ?_
 rintro e W2 ⟨rfl, b2⟩
 have B2 := B1.trans (b2.mono (by omega))
 have g2 := (Kept.of_below b2 0).same _ _ b1 (.inl rfl)
 obtain ⟨n2, hn2⟩ : ∃ n, W2.heap.size = n := ⟨_, rfl⟩
 have hn02 : n₀ < n2 := by have := (Array.getElem?_eq_some_iff.1 g2).1; omega
 have h1 := World.alloc_heap_new W2 (.cells #[.int .i64 0, .int .i64 0, .int .i64 0] 126)
 rw [hn2] at h1
 have ht1 : (W2.alloc (.cells #[.int .i64 0, .int .i64 0, .int .i64 0] 126)).there n2 0 (sumC sm).size := there_blk h1 rfl
 have u1 := (Upd.refl h1).setCells (sumC sm).toList rfl
 have g4 := (u1.off n₀ (by omega)).trans ((Kept.alloc 0 W2 (.cells #[.int .i64 0, .int .i64 0, .int .i64 0] 126)).same _ _ g2 (.inl rfl))
 have B4 := u1.below (B2.alloc (by omega) (.cells #[.int .i64 0, .int .i64 0, .int .i64 0] 126)) (by omega)
 have s4 := (Kept.of_below (hn₀ ▸ B4 : Below w.heap.size w _) 0).sl hl
 have e4 := u1.here
 rw [Array.toArray_toList] at e4
 have hi8 : (Tryz.prog.info? 126).map (·.size) = some (sumC sm).size := by kernel_rfl
 clear cM b1 B1 s1 c0 b2 B2 g2 h1 u1
 go_upto_region 2 with (refine wpList_store_mid rfl 126 _ _ rfl n2 0 (sumC sm) rfl rfl ht1 hi8 (sumC_one _) ?_)
 try simp only [Act.put]
 obtain ⟨W4, hW4⟩ : ∃ W : World, W = (W2.alloc (.cells #[.int .i64 0, .int .i64 0, .int .i64 0] 126)).setCells n2 0 (sumC sm).toList := ⟨_, rfl⟩
 rw [← hW4] at g4 B4 s4 e4 ⊢
 clear hW4 ht1
 have c0 : W4.cell? ⟨n₀, 0, none⟩ = some (.slice p L cap) := cell_blk (i := 0) g4 rfl
 have c1 : W4.cell? ⟨n₀, 1, none⟩ = some (.int .i64 wd) := cell_blk (i := 1) g4 rfl
 have c2 : W4.cell? ⟨n₀, 2, none⟩ = some (.int .i64 tol) := cell_blk (i := 2) g4 rfl
 have e0 : W4.cell? ⟨n2, 0, none⟩ = some (.int .i64 sm.w) := cell_blk (i := 0) e4 rfl
 have e1 : W4.cell? ⟨n2, 1, none⟩ = some (.int .i64 sm.y) := cell_blk (i := 1) e4 rfl
 have e2 : W4.cell? ⟨n2, 2, none⟩ = some (.int .i64 sm.z) := cell_blk (i := 2) e4 rfl
 have s4d : Sl W4.drew 6 encIt (.slice p l.length cap) l := by rw [hL]; exact (Kept.drewN 0 W4 1).sl s4
 have g4d : W4.drew.heap[n₀]? = some (.cells #[.slice p L cap, .int .i64 wd, .int .i64 tol] 82 (0, 0)) := g4
 have B4d : Below n₀ w W4.drew := B4.drewN 1
 have hz4 : n₀ ≤ W4.drew.heap.size := by have := (Array.getElem?_eq_some_iff.1 g4d).1; omega
 clear e4
 go_wp2_with (fail)
 refine (cB.out _).mono ?_
 rintro e W4 ⟨rfl, rfl⟩
 clear cB
 by_cases hend : t = L
 ·by_cases h0 : 0 ≤ d
  ·have hlb : lbad l wd n t = (0, true) := by rw [hlb0, if_pos ⟨hend, h0⟩]
   have hendb : ((t : Int) == (L : Int)) = true := by rw [hend]; simp
   replace hend := hid hend
   clear hlb0
   go_upto_region 8 with (fail)
   have hres : liS l wd tol n t = ⟨demS 0 (costAt l t) (penAt l n && isPen l t), false, decide (0 ≤ tol)⟩ := by unfold liS; rw [hlb]; rfl
   have hst : (fun W => Below W4.drew.heap.size W4.drew W) W4.drew := Below.refl _ _
   have cF := hid (fun W (h : Below W4.drew.heap.size W4.drew W) => pen_any (p := p) (cap := cap) (wd := wd) (tol := tol) n W ((Kept.of_below h 0).sl s4d) hle hn)
   have cT := hid (fun W (h : Below W4.drew.heap.size W4.drew W) => pen_any (p := p) (cap := cap) (wd := wd) (tol := tol) (t : Int) W ((Kept.of_below h 0).sl s4d) hle ⟨by omega, by omega⟩)
   have cC := hid (fun W (h : Below W4.drew.heap.size W4.drew W) => cost_any (p := p) (cap := cap) (wd := wd) (tol := tol) t W ((Kept.of_below h 0).sl s4d) hle (by omega) hok)
   unfold parV at cF cT cC
   rw [hpt] at cT
   rw [hL] at cF cT cC
   have kR := hid (fun W (h : Below W4.drew.heap.size W4.drew W) => range_blk (cs := [Value.slice p L cap, .int .i64 wd, .int .i64 tol]) ((Kept.of_below h 0).same _ _ g4d (.inl rfl)))
   have kT := hid (fun W (h : Below W4.drew.heap.size W4.drew W) => (show W.cell? ⟨n₀, 2, none⟩ = some (.int .i64 tol) from cell_blk (i := 2) ((Kept.of_below h 0).same _ _ g4d (.inl rfl)) rfl))
   obtain ⟨ct, hct⟩ : ∃ x, costAt l t = x := ⟨_, rfl⟩
   obtain ⟨pf, hpf⟩ : ∃ x, penAt l n = x := ⟨_, rfl⟩
   obtain ⟨pt, hpt2⟩ : ∃ x, isPen l t = x := ⟨_, rfl⟩
   rw [hct] at cC hres
   rw [hpf] at cF hres
   rw [hpt2] at cT hres
   have cD := hid (fun W (_ : Below W4.drew.heap.size W4.drew W) => bDem_any 0 ct (pf && pt) W)
   replace hres := hid hres
   replace hok := hid hok
   clear hct hpf hpt2 hpt hlb s4 g4 c0 c1 c2 e0 e1 e2 B4
   cases pf with
   | true =>
    rw [Bool.true_and] at cD
    refine wp_region_held_drew (S := (fun W => Below W4.drew.heap.size W4.drew W)) (by kernel_rfl) hst (fun hHeld => ?_)
    generalize W4.drew = W5 at *
    refine tkH 0 (some 51) ?_ rfl (Or.inl ⟨by rfl, ?_⟩) ?_; rotate_left
    ·intro w hSw; (try dsimp only at hSw); go_simp <;> with_reducible rfl
    try simp only [Act.put, aS, aZ, aC]
    refine tkH 1 (some 52) _ rfl (yieldsIf_load_mid (by rfl) 82 _ rfl n₀ 0 rfl [.slice p L cap, .int .i64 wd, .int .i64 tol] _ (fun w h => kR.out w h) Tryz.underlying82 rfl hi7) ?_
    try simp only [Act.put, aS, aZ, aC]
    refine tkH 2 (some 53) ?_ rfl (Or.inl ⟨by rfl, ?_⟩) ?_; rotate_left
    ·intro w hSw; (try dsimp only at hSw); go_simp <;> with_reducible rfl
    try simp only [Act.put, aS, aZ, aC]
    refine tkH 4 (some 55) _ rfl (yieldsIf_load_mid (by rfl) 82 _ rfl n₀ 0 rfl [.slice p L cap, .int .i64 wd, .int .i64 tol] _ (fun w h => kR.out w h) Tryz.underlying82 rfl hi7) ?_
    try simp only [Act.put, aS, aZ, aC]
    refine tkH 5 (some 56) ?_ rfl (Or.inl ⟨by rfl, ?_⟩) ?_; rotate_left
    ·intro w hSw; (try dsimp only at hSw); go_simp <;> with_reducible rfl
    try simp only [Act.put, aS, aZ, aC]
    refine tkH 13 (some 64) ?_ rfl (Or.inl ⟨by rfl, ?_⟩) ?_; rotate_left
    ·intro w hSw; (try dsimp only at hSw); go_simp <;> with_reducible rfl
    try simp only [Act.put, aS, aZ, aC]
    refine tkH 14 (some 65) ?_ rfl (Or.inl ⟨by rfl, ?_⟩) ?_; rotate_left
    ·intro w hSw; (try dsimp only at hSw); go_simp <;> with_reducible rfl
    try simp only [Act.put, aS, aZ, aC]
    refine tkH 15 (some 66) ?_ rfl (Or.inl ⟨by rfl, ?_⟩) ?_; rotate_left
    ·intro w hSw; (try dsimp only at hSw); have h9 := kT.out _ hSw; go_simp <;> with_reducible rfl
    try simp only [Act.put, aS, aZ, aC]
    refine tkH 16 (some 67) ?_ rfl (Or.inl ⟨by rfl, ?_⟩) ?_; rotate_left
    ·intro w hSw; (try dsimp only at hSw); go_simp <;> with_reducible rfl
    try simp only [Act.put, aS, aZ, aC]
    refine wpAnyH_ready (rs := [3]) (by kernel_rfl) (by simp) ?_
    refine AllReadyH.cons (o := ⟨some 54, _, _, _, _, _⟩) rfl (fun K hK => ?_) AllReadyH.nil
    go_simp
    refine (cC.out _ hHeld).mono ?_
    rintro r w7 ⟨rfl, b7⟩
    have b8 := hHeld.trans (b7.mono hHeld.size)
    clear hHeld b7
    refine hK.out _ _ (b8) (fun hHeld => ?_)
    clear hK K
    try simp only [Act.put, aS, aZ, aC]
    refine wpAnyH_ready (rs := [6]) (by kernel_rfl) (by simp) ?_
    refine AllReadyH.cons (o := ⟨some 57, _, _, _, _, _⟩) rfl (fun K hK => ?_) AllReadyH.nil
    go_simp
    refine (cF.out _ hHeld).mono ?_
    rintro r w7 ⟨rfl, b7⟩
    have b8 := hHeld.trans (b7.mono hHeld.size)
    clear hHeld b7
    refine hK.out _ _ (b8) (fun hHeld => ?_)
    clear hK K
    try simp only [Act.put, aS, aZ, aC]
    refine tkH 7 (some 58) ?_ rfl (Or.inl ⟨by rfl, ?_⟩) ?_; rotate_left
    ·intro w hSw; (try dsimp only at hSw); go_simp <;> with_reducible rfl
    try simp only [Act.put, aS, aZ, aC]
    refine tkH 8 (some 59) _ rfl (yieldsIf_load_mid (by rfl) 82 _ rfl n₀ 0 rfl [.slice p L cap, .int .i64 wd, .int .i64 tol] _ (fun w h => kR.out w h) Tryz.underlying82 rfl hi7) ?_
    try simp only [Act.put, aS, aZ, aC]
    refine tkH 9 (some 60) ?_ rfl (Or.inl ⟨by rfl, ?_⟩) ?_; rotate_left
    ·intro w hSw; (try dsimp only at hSw); go_simp <;> with_reducible rfl
    try simp only [Act.put, aS, aZ, aC]
    refine wpAnyH_ready (rs := [10]) (by kernel_rfl) (by simp) ?_
    refine AllReadyH.cons (o := ⟨some 61, _, _, _, _, _⟩) rfl (fun K hK => ?_) AllReadyH.nil
    go_simp
    refine (cT.out _ hHeld).mono ?_
    rintro r w7 ⟨rfl, b7⟩
    have b8 := hHeld.trans (b7.mono hHeld.size)
    clear hHeld b7
    refine hK.out _ _ (b8) (fun hHeld => ?_)
    clear hK K
    try simp only [Act.put, aS, aZ, aC]
    refine tkH 11 (some 62) ?_ rfl (Or.inl ⟨by rfl, ?_⟩) ?_; rotate_left
    ·intro w hSw; (try dsimp only at hSw); go_simp <;> with_reducible rfl
    try simp only [Act.put, aS, aZ, aC]
    refine wpAnyH_ready (rs := [12]) (by kernel_rfl) (by simp) ?_
    refine AllReadyH.cons (o := ⟨some 63, _, _, _, _, _⟩) rfl (fun K hK => ?_) AllReadyH.nil
    go_simp
    refine (cD.out _ hHeld).mono ?_
    rintro r w7 ⟨rfl, rfl⟩
    refine hK.out _ _ (hHeld) (fun hHeld => ?_)
    clear hK K
    try simp only [Act.put, aS, aZ, aC]
    refine tkH 17 (some 6) ?_ rfl (Or.inl ⟨by rfl, ?_⟩) ?_; rotate_left
    ·intro w hSw; (try dsimp only at hSw); go_simp <;> with_reducible rfl
    try simp only [Act.put, aS, aZ, aC]
    refine tkH 18 (some 7) ?_ rfl (Or.inl ⟨by rfl, ?_⟩) ?_; rotate_left
    ·intro w hSw; (try dsimp only at hSw); go_simp <;> with_reducible rfl
    try simp only [Act.put, aS, aZ, aC]
    refine tkH 19 (some 8) ?_ rfl (Or.inl ⟨by rfl, ?_⟩) ?_; rotate_left
    ·intro w hSw; (try dsimp only at hSw); go_simp <;> with_reducible rfl
    try simp only [Act.put, aS, aZ, aC]
    refine wpAnyH_done (by kernel_rfl) ?_ _
    have BZ := B4d.trans (hHeld.mono hz4)
    clear hHeld
    go_wp2_with (fail)
    go_ret3
    exact ⟨by rw [hres.out]; rfl, BZ⟩
   | false =>
    rw [Bool.false_and] at cD
    refine wp_region_held_drew (S := (fun W => Below W4.drew.heap.size W4.drew W)) (by kernel_rfl) hst (fun hHeld => ?_)
    generalize W4.drew = W5 at *
    refine tkH 0 (some 51) ?_ rfl (Or.inl ⟨by rfl, ?_⟩) ?_; rotate_left
    ·intro w hSw; (try dsimp only at hSw); go_simp <;> with_reducible rfl
    try simp only [Act.put, aS, aZ, aC]
    refine tkH 1 (some 52) _ rfl (yieldsIf_load_mid (by rfl) 82 _ rfl n₀ 0 rfl [.slice p L cap, .int .i64 wd, .int .i64 tol] _ (fun w h => kR.out w h) Tryz.underlying82 rfl hi7) ?_
    try simp only [Act.put, aS, aZ, aC]
    refine tkH 2 (some 53) ?_ rfl (Or.inl ⟨by rfl, ?_⟩) ?_; rotate_left
    ·intro w hSw; (try dsimp only at hSw); go_simp <;> with_reducible rfl
    try simp only [Act.put, aS, aZ, aC]
    refine tkH 4 (some 55) _ rfl (yieldsIf_load_mid (by rfl) 82 _ rfl n₀ 0 rfl [.slice p L cap, .int .i64 wd, .int .i64 tol] _ (fun w h => kR.out w h) Tryz.underlying82 rfl hi7) ?_
    try simp only [Act.put, aS, aZ, aC]
    refine tkH 5 (some 56) ?_ rfl (Or.inl ⟨by rfl, ?_⟩) ?_; rotate_left
    ·intro w hSw; (try dsimp only at hSw); go_simp <;> with_reducible rfl
    try simp only [Act.put, aS, aZ, aC]
    refine tkH 13 (some 64) ?_ rfl (Or.inl ⟨by rfl, ?_⟩) ?_; rotate_left
    ·intro w hSw; (try dsimp only at hSw); go_simp <;> with_reducible rfl
    try simp only [Act.put, aS, aZ, aC]
    refine tkH 14 (some 65) ?_ rfl (Or.inl ⟨by rfl, ?_⟩) ?_; rotate_left
    ·intro w hSw; (try dsimp only at hSw); go_simp <;> with_reducible rfl
    try simp only [Act.put, aS, aZ, aC]
    refine tkH 15 (some 66) ?_ rfl (Or.inl ⟨by rfl, ?_⟩) ?_; rotate_left
    ·intro w hSw; (try dsimp only at hSw); have h9 := kT.out _ hSw; go_simp <;> with_reducible rfl
    try simp only [Act.put, aS, aZ, aC]
    refine tkH 16 (some 67) ?_ rfl (Or.inl ⟨by rfl, ?_⟩) ?_; rotate_left
    ·intro w hSw; (try dsimp only at hSw); go_simp <;> with_reducible rfl
    try simp only [Act.put, aS, aZ, aC]
    refine wpAnyH_ready (rs := [3]) (by kernel_rfl) (by simp) ?_
    refine AllReadyH.cons (o := ⟨some 54, _, _, _, _, _⟩) rfl (fun K hK => ?_) AllReadyH.nil
    go_simp
    refine (cC.out _ hHeld).mono ?_
    rintro r w7 ⟨rfl, b7⟩
    have b8 := hHeld.trans (b7.mono hHeld.size)
    clear hHeld b7
    refine hK.out _ _ (b8) (fun hHeld => ?_)
    clear hK K
    try simp only [Act.put, aS, aZ, aC]
    refine wpAnyH_ready (rs := [6]) (by kernel_rfl) (by simp) ?_
    refine AllReadyH.cons (o := ⟨some 57, _, _, _, _, _⟩) rfl (fun K hK => ?_) AllReadyH.nil
    go_simp
    refine (cF.out _ hHeld).mono ?_
    rintro r w7 ⟨rfl, b7⟩
    have b8 := hHeld.trans (b7.mono hHeld.size)
    clear hHeld b7
    refine hK.out _ _ (b8) (fun hHeld => ?_)
    clear hK K
    try simp only [Act.put, aS, aZ, aC]
    refine tkH 7 (some 58) ?_ rfl (Or.inl ⟨by rfl, ?_⟩) ?_; rotate_left
    ·intro w hSw; (try dsimp only at hSw); go_simp <;> with_reducible rfl
    try simp only [Act.put, aS, aZ, aC]
    refine tkH 8 (some 59) _ rfl (Or.inr ⟨by rfl, rfl⟩) ?_
    try simp only [Act.put, aS, aZ, aC]
    refine tkH 9 (some 60) _ rfl (Or.inr ⟨by rfl, rfl⟩) ?_
    try simp only [Act.put, aS, aZ, aC]
    refine tkH 10 (some 61) _ rfl (Or.inr ⟨by rfl, rfl⟩) ?_
    try simp only [Act.put, aS, aZ, aC]
    refine tkH 11 (some 62) ?_ rfl (Or.inl ⟨by rfl, ?_⟩) ?_; rotate_left
    ·intro w hSw; (try dsimp only at hSw); go_simp <;> with_reducible rfl
    try simp only [Act.put, aS, aZ, aC]
    refine wpAnyH_ready (rs := [12]) (by kernel_rfl) (by simp) ?_
    refine AllReadyH.cons (o := ⟨some 63, _, _, _, _, _⟩) rfl (fun K hK => ?_) AllReadyH.nil
    go_simp
    refine (cD.out _ hHeld).mono ?_
    rintro r w7 ⟨rfl, rfl⟩
    refine hK.out _ _ (hHeld) (fun hHeld => ?_)
    clear hK K
    try simp only [Act.put, aS, aZ, aC]
    refine tkH 17 (some 6) ?_ rfl (Or.inl ⟨by rfl, ?_⟩) ?_; rotate_left
    ·intro w hSw; (try dsimp only at hSw); go_simp <;> with_reducible rfl
    try simp only [Act.put, aS, aZ, aC]
    refine tkH 18 (some 7) ?_ rfl (Or.inl ⟨by rfl, ?_⟩) ?_; rotate_left
    ·intro w hSw; (try dsimp only at hSw); go_simp <;> with_reducible rfl
    try simp only [Act.put, aS, aZ, aC]
    refine tkH 19 (some 8) ?_ rfl (Or.inl ⟨by rfl, ?_⟩) ?_; rotate_left
    ·intro w hSw; (try dsimp only at hSw); go_simp <;> with_reducible rfl
    try simp only [Act.put, aS, aZ, aC]
    refine wpAnyH_done (by kernel_rfl) ?_ _
    have BZ := B4d.trans (hHeld.mono hz4)
    clear hHeld
    go_wp2_with (fail)
    go_ret3
    exact ⟨by rw [hres.out]; rfl, BZ⟩
  ·have hlb : lbad l wd n t = badS d sm.y sm.z := by rw [hlb0, if_neg (fun h => h0 h.2)]
   obtain ⟨⟨bb, ok⟩, hbb⟩ : ∃ x, badS d sm.y sm.z = x := ⟨_, rfl⟩
   rw [hbb] at hlb ⊢
   have hendb : ((t : Int) == (L : Int)) = true := by rw [hend]; simp
   replace hend := hid hend
   clear hlb0 hbb
   cases ok with
   | false =>
    have hres : liS l wd tol n t = ⟨100000000000 * (min (-d) 10000 - min sm.z 10000), true, false⟩ := by
     unfold liS
     rw [hlb, if_neg (by simp), hsm, hd]
    replace hres := hid hres
    have hng : IntKind.i64.wrap (-d) = -d := by rw [IntKind.wrap_i64]; omega
    obtain ⟨M1, hM1⟩ : ∃ x, min (-d) 10000 = x := ⟨_, rfl⟩
    obtain ⟨M2, hM2⟩ : ∃ x, min sm.z 10000 = x := ⟨_, rfl⟩
    have hres2 := hres.out
    rw [hM1, hM2] at hres2
    have q1 : IntKind.i64.wrap (M1 - M2) = M1 - M2 := by rw [IntKind.wrap_i64]; omega
    have q2 : IntKind.i64.wrap (100000000000 * (M1 - M2)) = 100000000000 * (M1 - M2) := by rw [IntKind.wrap_i64]; omega
    replace hres2 := hid hres2
    clear hres hlb
    rcases (show (10000 < -d ∧ M1 = 10000) ∨ (¬ 10000 < -d ∧ M1 = -d) by omega) with ⟨m1, rfl⟩ | ⟨m1, rfl⟩
    all_goals
     rcases (show (10000 < sm.z ∧ M2 = 10000) ∨ (¬ 10000 < sm.z ∧ M2 = sm.z) by omega) with ⟨m2, rfl⟩ | ⟨m2, rfl⟩
     all_goals
      clear hM1 hM2
      go_wp2_with (fail)
      go_ret3
      exact ⟨by rw [hres2.out]; rfl, B4⟩
   | true =>
    go_upto_region 8 with (fail)
    have hres : liS l wd tol n t = ⟨demS bb (costAt l t) (penAt l n && isPen l t), false, decide (bb ≤ tol)⟩ := by unfold liS; rw [hlb]; rfl
    have hst : (fun W => Below W4.drew.heap.size W4.drew W) W4.drew := Below.refl _ _
    have cF := hid (fun W (h : Below W4.drew.heap.size W4.drew W) => pen_any (p := p) (cap := cap) (wd := wd) (tol := tol) n W ((Kept.of_below h 0).sl s4d) hle hn)
    have cT := hid (fun W (h : Below W4.drew.heap.size W4.drew W) => pen_any (p := p) (cap := cap) (wd := wd) (tol := tol) (t : Int) W ((Kept.of_below h 0).sl s4d) hle ⟨by omega, by omega⟩)
    have cC := hid (fun W (h : Below W4.drew.heap.size W4.drew W) => cost_any (p := p) (cap := cap) (wd := wd) (tol := tol) t W ((Kept.of_below h 0).sl s4d) hle (by omega) hok)
    unfold parV at cF cT cC
    rw [hpt] at cT
    rw [hL] at cF cT cC
    have kR := hid (fun W (h : Below W4.drew.heap.size W4.drew W) => range_blk (cs := [Value.slice p L cap, .int .i64 wd, .int .i64 tol]) ((Kept.of_below h 0).same _ _ g4d (.inl rfl)))
    have kT := hid (fun W (h : Below W4.drew.heap.size W4.drew W) => (show W.cell? ⟨n₀, 2, none⟩ = some (.int .i64 tol) from cell_blk (i := 2) ((Kept.of_below h 0).same _ _ g4d (.inl rfl)) rfl))
    obtain ⟨ct, hct⟩ : ∃ x, costAt l t = x := ⟨_, rfl⟩
    obtain ⟨pf, hpf⟩ : ∃ x, penAt l n = x := ⟨_, rfl⟩
    obtain ⟨pt, hpt2⟩ : ∃ x, isPen l t = x := ⟨_, rfl⟩
    rw [hct] at cC hres
    rw [hpf] at cF hres
    rw [hpt2] at cT hres
    have cD := hid (fun W (_ : Below W4.drew.heap.size W4.drew W) => bDem_any bb ct (pf && pt) W)
    replace hres := hid hres
    replace hok := hid hok
    clear hct hpf hpt2 hpt hlb s4 g4 c0 c1 c2 e0 e1 e2 B4
    cases pf with
    | true =>
     rw [Bool.true_and] at cD
     refine wp_region_held_drew (S := (fun W => Below W4.drew.heap.size W4.drew W)) (by kernel_rfl) hst (fun hHeld => ?_)
     generalize W4.drew = W5 at *
     refine tkH 0 (some 51) ?_ rfl (Or.inl ⟨by rfl, ?_⟩) ?_; rotate_left
     ·intro w hSw; (try dsimp only at hSw); go_simp <;> with_reducible rfl
     try simp only [Act.put, aS, aZ, aC]
     refine tkH 1 (some 52) _ rfl (yieldsIf_load_mid (by rfl) 82 _ rfl n₀ 0 rfl [.slice p L cap, .int .i64 wd, .int .i64 tol] _ (fun w h => kR.out w h) Tryz.underlying82 rfl hi7) ?_
     try simp only [Act.put, aS, aZ, aC]
     refine tkH 2 (some 53) ?_ rfl (Or.inl ⟨by rfl, ?_⟩) ?_; rotate_left
     ·intro w hSw; (try dsimp only at hSw); go_simp <;> with_reducible rfl
     try simp only [Act.put, aS, aZ, aC]
     refine tkH 4 (some 55) _ rfl (yieldsIf_load_mid (by rfl) 82 _ rfl n₀ 0 rfl [.slice p L cap, .int .i64 wd, .int .i64 tol] _ (fun w h => kR.out w h) Tryz.underlying82 rfl hi7) ?_
     try simp only [Act.put, aS, aZ, aC]
     refine tkH 5 (some 56) ?_ rfl (Or.inl ⟨by rfl, ?_⟩) ?_; rotate_left
     ·intro w hSw; (try dsimp only at hSw); go_simp <;> with_reducible rfl
     try simp only [Act.put, aS, aZ, aC]
     refine tkH 13 (some 64) ?_ rfl (Or.inl ⟨by rfl, ?_⟩) ?_; rotate_left
     ·intro w hSw; (try dsimp only at hSw); go_simp <;> with_reducible rfl
     try simp only [Act.put, aS, aZ, aC]
     refine tkH 14 (some 65) ?_ rfl (Or.inl ⟨by rfl, ?_⟩) ?_; rotate_left
     ·intro w hSw; (try dsimp only at hSw); go_simp <;> with_reducible rfl
     try simp only [Act.put, aS, aZ, aC]
     refine tkH 15 (some 66) ?_ rfl (Or.inl ⟨by rfl, ?_⟩) ?_; rotate_left
     ·intro w hSw; (try dsimp only at hSw); have h9 := kT.out _ hSw; go_simp <;> with_reducible rfl
     try simp only [Act.put, aS, aZ, aC]
     refine tkH 16 (some 67) ?_ rfl (Or.inl ⟨by rfl, ?_⟩) ?_; rotate_left
     ·intro w hSw; (try dsimp only at hSw); go_simp <;> with_reducible rfl
     try simp only [Act.put, aS, aZ, aC]
     refine wpAnyH_ready (rs := [3]) (by kernel_rfl) (by simp) ?_
     refine AllReadyH.cons (o := ⟨some 54, _, _, _, _, _⟩) rfl (fun K hK => ?_) AllReadyH.nil
     go_simp
     refine (cC.out _ hHeld).mono ?_
     rintro r w7 ⟨rfl, b7⟩
     have b8 := hHeld.trans (b7.mono hHeld.size)
     clear hHeld b7
     refine hK.out _ _ (b8) (fun hHeld => ?_)
     clear hK K
     try simp only [Act.put, aS, aZ, aC]
     refine wpAnyH_ready (rs := [6]) (by kernel_rfl) (by simp) ?_
     refine AllReadyH.cons (o := ⟨some 57, _, _, _, _, _⟩) rfl (fun K hK => ?_) AllReadyH.nil
     go_simp
     refine (cF.out _ hHeld).mono ?_
     rintro r w7 ⟨rfl, b7⟩
     have b8 := hHeld.trans (b7.mono hHeld.size)
     clear hHeld b7
     refine hK.out _ _ (b8) (fun hHeld => ?_)
     clear hK K
     try simp only [Act.put, aS, aZ, aC]
     refine tkH 7 (some 58) ?_ rfl (Or.inl ⟨by rfl, ?_⟩) ?_; rotate_left
     ·intro w hSw; (try dsimp only at hSw); go_simp <;> with_reducible rfl
     try simp only [Act.put, aS, aZ, aC]
     refine tkH 8 (some 59) _ rfl (yieldsIf_load_mid (by rfl) 82 _ rfl n₀ 0 rfl [.slice p L cap, .int .i64 wd, .int .i64 tol] _ (fun w h => kR.out w h) Tryz.underlying82 rfl hi7) ?_
     try simp only [Act.put, aS, aZ, aC]
     refine tkH 9 (some 60) ?_ rfl (Or.inl ⟨by rfl, ?_⟩) ?_; rotate_left
     ·intro w hSw; (try dsimp only at hSw); go_simp <;> with_reducible rfl
     try simp only [Act.put, aS, aZ, aC]
     refine wpAnyH_ready (rs := [10]) (by kernel_rfl) (by simp) ?_
     refine AllReadyH.cons (o := ⟨some 61, _, _, _, _, _⟩) rfl (fun K hK => ?_) AllReadyH.nil
     go_simp
     refine (cT.out _ hHeld).mono ?_
     rintro r w7 ⟨rfl, b7⟩
     have b8 := hHeld.trans (b7.mono hHeld.size)
     clear hHeld b7
     refine hK.out _ _ (b8) (fun hHeld => ?_)
     clear hK K
     try simp only [Act.put, aS, aZ, aC]
     refine tkH 11 (some 62) ?_ rfl (Or.inl ⟨by rfl, ?_⟩) ?_; rotate_left
     ·intro w hSw; (try dsimp only at hSw); go_simp <;> with_reducible rfl
     try simp only [Act.put, aS, aZ, aC]
     refine wpAnyH_ready (rs := [12]) (by kernel_rfl) (by simp) ?_
     refine AllReadyH.cons (o := ⟨some 63, _, _, _, _, _⟩) rfl (fun K hK => ?_) AllReadyH.nil
     go_simp
     refine (cD.out _ hHeld).mono ?_
     rintro r w7 ⟨rfl, rfl⟩
     refine hK.out _ _ (hHeld) (fun hHeld => ?_)
     clear hK K
     try simp only [Act.put, aS, aZ, aC]
     refine tkH 17 (some 6) ?_ rfl (Or.inl ⟨by rfl, ?_⟩) ?_; rotate_left
     ·intro w hSw; (try dsimp only at hSw); go_simp <;> with_reducible rfl
     try simp only [Act.put, aS, aZ, aC]
     refine tkH 18 (some 7) ?_ rfl (Or.inl ⟨by rfl, ?_⟩) ?_; rotate_left
     ·intro w hSw; (try dsimp only at hSw); go_simp <;> with_reducible rfl
     try simp only [Act.put, aS, aZ, aC]
     refine tkH 19 (some 8) ?_ rfl (Or.inl ⟨by rfl, ?_⟩) ?_; rotate_left
     ·intro w hSw; (try dsimp only at hSw); go_simp <;> with_reducible rfl
     try simp only [Act.put, aS, aZ, aC]
     refine wpAnyH_done (by kernel_rfl) ?_ _
     have BZ := B4d.trans (hHeld.mono hz4)
     clear hHeld
     go_wp2_with (fail)
     go_ret3
     exact ⟨by rw [hres.out]; rfl, BZ⟩
    | false =>
     rw [Bool.false_and] at cD
     refine wp_region_held_drew (S := (fun W => Below W4.drew.heap.size W4.drew W)) (by kernel_rfl) hst (fun hHeld => ?_)
     generalize W4.drew = W5 at *
     refine tkH 0 (some 51) ?_ rfl (Or.inl ⟨by rfl, ?_⟩) ?_; rotate_left
     ·intro w hSw; (try dsimp only at hSw); go_simp <;> with_reducible rfl
     try simp only [Act.put, aS, aZ, aC]
     refine tkH 1 (some 52) _ rfl (yieldsIf_load_mid (by rfl) 82 _ rfl n₀ 0 rfl [.slice p L cap, .int .i64 wd, .int .i64 tol] _ (fun w h => kR.out w h) Tryz.underlying82 rfl hi7) ?_
     try simp only [Act.put, aS, aZ, aC]
     refine tkH 2 (some 53) ?_ rfl (Or.inl ⟨by rfl, ?_⟩) ?_; rotate_left
     ·intro w hSw; (try dsimp only at hSw); go_simp <;> with_reducible rfl
     try simp only [Act.put, aS, aZ, aC]
     refine tkH 4 (some 55) _ rfl (yieldsIf_load_mid (by rfl) 82 _ rfl n₀ 0 rfl [.slice p L cap, .int .i64 wd, .int .i64 tol] _ (fun w h => kR.out w h) Tryz.underlying82 rfl hi7) ?_
     try simp only [Act.put, aS, aZ, aC]
     refine tkH 5 (some 56) ?_ rfl (Or.inl ⟨by rfl, ?_⟩) ?_; rotate_left
     ·intro w hSw; (try dsimp only at hSw); go_simp <;> with_reducible rfl
     try simp only [Act.put, aS, aZ, aC]
     refine tkH 13 (some 64) ?_ rfl (Or.inl ⟨by rfl, ?_⟩) ?_; rotate_left
     ·intro w hSw; (try dsimp only at hSw); go_simp <;> with_reducible rfl
     try simp only [Act.put, aS, aZ, aC]
     refine tkH 14 (some 65) ?_ rfl (Or.inl ⟨by rfl, ?_⟩) ?_; rotate_left
     ·intro w hSw; (try dsimp only at hSw); go_simp <;> with_reducible rfl
     try simp only [Act.put, aS, aZ, aC]
     refine tkH 15 (some 66) ?_ rfl (Or.inl ⟨by rfl, ?_⟩) ?_; rotate_left
     ·intro w hSw; (try dsimp only at hSw); have h9 := kT.out _ hSw; go_simp <;> with_reducible rfl
     try simp only [Act.put, aS, aZ, aC]
     refine tkH 16 (some 67) ?_ rfl (Or.inl ⟨by rfl, ?_⟩) ?_; rotate_left
     ·intro w hSw; (try dsimp only at hSw); go_simp <;> with_reducible rfl
     try simp only [Act.put, aS, aZ, aC]
     refine wpAnyH_ready (rs := [3]) (by kernel_rfl) (by simp) ?_
     refine AllReadyH.cons (o := ⟨some 54, _, _, _, _, _⟩) rfl (fun K hK => ?_) AllReadyH.nil
     go_simp
     refine (cC.out _ hHeld).mono ?_
     rintro r w7 ⟨rfl, b7⟩
     have b8 := hHeld.trans (b7.mono hHeld.size)
     clear hHeld b7
     refine hK.out _ _ (b8) (fun hHeld => ?_)
     clear hK K
     try simp only [Act.put, aS, aZ, aC]
     refine wpAnyH_ready (rs := [6]) (by kernel_rfl) (by simp) ?_
     refine AllReadyH.cons (o := ⟨some 57, _, _, _, _, _⟩) rfl (fun K hK => ?_) AllReadyH.nil
     go_simp
     refine (cF.out _ hHeld).mono ?_
     rintro r w7 ⟨rfl, b7⟩
     have b8 := hHeld.trans (b7.mono hHeld.size)
     clear hHeld b7
     refine hK.out _ _ (b8) (fun hHeld => ?_)
     clear hK K
     try simp only [Act.put, aS, aZ, aC]
     refine tkH 7 (some 58) ?_ rfl (Or.inl ⟨by rfl, ?_⟩) ?_; rotate_left
     ·intro w hSw; (try dsimp only at hSw); go_simp <;> with_reducible rfl
     try simp only [Act.put, aS, aZ, aC]
     refine tkH 8 (some 59) _ rfl (Or.inr ⟨by rfl, rfl⟩) ?_
     try simp only [Act.put, aS, aZ, aC]
     refine tkH 9 (some 60) _ rfl (Or.inr ⟨by rfl, rfl⟩) ?_
     try simp only [Act.put, aS, aZ, aC]
     refine tkH 10 (some 61) _ rfl (Or.inr ⟨by rfl, rfl⟩) ?_
     try simp only [Act.put, aS, aZ, aC]
     refine tkH 11 (some 62) ?_ rfl (Or.inl ⟨by rfl, ?_⟩) ?_; rotate_left
     ·intro w hSw; (try dsimp only at hSw); go_simp <;> with_reducible rfl
     try simp only [Act.put, aS, aZ, aC]
     refine wpAnyH_ready (rs := [12]) (by kernel_rfl) (by simp) ?_
     refine AllReadyH.cons (o := ⟨some 63, _, _, _, _, _⟩) rfl (fun K hK => ?_) AllReadyH.nil
     go_simp
     refine (cD.out _ hHeld).mono ?_
     rintro r w7 ⟨rfl, rfl⟩
     refine hK.out _ _ (hHeld) (fun hHeld => ?_)
     clear hK K
     try simp only [Act.put, aS, aZ, aC]
     refine tkH 17 (some 6) ?_ rfl (Or.inl ⟨by rfl, ?_⟩) ?_; rotate_left
     ·intro w hSw; (try dsimp only at hSw); go_simp <;> with_reducible rfl
     try simp only [Act.put, aS, aZ, aC]
     refine tkH 18 (some 7) ?_ rfl (Or.inl ⟨by rfl, ?_⟩) ?_; rotate_left
     ·intro w hSw; (try dsimp only at hSw); go_simp <;> with_reducible rfl
     try simp only [Act.put, aS, aZ, aC]
     refine tkH 19 (some 8) ?_ rfl (Or.inl ⟨by rfl, ?_⟩) ?_; rotate_left
     ·intro w hSw; (try dsimp only at hSw); go_simp <;> with_reducible rfl
     try simp only [Act.put, aS, aZ, aC]
     refine wpAnyH_done (by kernel_rfl) ?_ _
     have BZ := B4d.trans (hHeld.mono hz4)
     clear hHeld
     go_wp2_with (fail)
     go_ret3
     exact ⟨by rw [hres.out]; rfl, BZ⟩
 ·have hlb : lbad l wd n t = badS d sm.y sm.z := by rw [hlb0, if_neg (fun h => hend h.1)]
  obtain ⟨⟨bb, ok⟩, hbb⟩ : ∃ x, badS d sm.y sm.z = x := ⟨_, rfl⟩
  rw [hbb] at hlb ⊢
  have hendb : ((t : Int) == (L : Int)) = false := by simpa using (show ¬ (t : Int) = L by omega)
  have hendI : ¬ (t : Int) = (L : Int) := by omega
  clear hlb0 hbb
  cases ok with
  | false =>
   have hres : liS l wd tol n t = ⟨100000000000 * (min (-d) 10000 - min sm.z 10000), true, false⟩ := by
    unfold liS
    rw [hlb, if_neg (by simp), hsm, hd]
   replace hres := hid hres
   have hng : IntKind.i64.wrap (-d) = -d := by rw [IntKind.wrap_i64]; omega
   obtain ⟨M1, hM1⟩ : ∃ x, min (-d) 10000 = x := ⟨_, rfl⟩
   obtain ⟨M2, hM2⟩ : ∃ x, min sm.z 10000 = x := ⟨_, rfl⟩
   have hres2 := hres.out
   rw [hM1, hM2] at hres2
   have q1 : IntKind.i64.wrap (M1 - M2) = M1 - M2 := by rw [IntKind.wrap_i64]; omega
   have q2 : IntKind.i64.wrap (100000000000 * (M1 - M2)) = 100000000000 * (M1 - M2) := by rw [IntKind.wrap_i64]; omega
   replace hres2 := hid hres2
   clear hres hlb
   rcases (show (10000 < -d ∧ M1 = 10000) ∨ (¬ 10000 < -d ∧ M1 = -d) by omega) with ⟨m1, rfl⟩ | ⟨m1, rfl⟩
   all_goals
    rcases (show (10000 < sm.z ∧ M2 = 10000) ∨ (¬ 10000 < sm.z ∧ M2 = sm.z) by omega) with ⟨m2, rfl⟩ | ⟨m2, rfl⟩
    all_goals
     clear hM1 hM2
     go_wp2_with (fail)
     go_ret3
     exact ⟨by rw [hres2.out]; rfl, B4⟩
  | true =>
   go_upto_region 8 with (fail)
   have hres : liS l wd tol n t = ⟨demS bb (costAt l t) (penAt l n && isPen l t), false, decide (bb ≤ tol)⟩ := by unfold liS; rw [hlb]; rfl
   have hst : (fun W => Below W4.drew.heap.size W4.drew W) W4.drew := Below.refl _ _
   have cF := hid (fun W (h : Below W4.drew.heap.size W4.drew W) => pen_any (p := p) (cap := cap) (wd := wd) (tol := tol) n W ((Kept.of_below h 0).sl s4d) hle hn)
   have cT := hid (fun W (h : Below W4.drew.heap.size W4.drew W) => pen_any (p := p) (cap := cap) (wd := wd) (tol := tol) (t : Int) W ((Kept.of_below h 0).sl s4d) hle ⟨by omega, by omega⟩)
   have cC := hid (fun W (h : Below W4.drew.heap.size W4.drew W) => cost_any (p := p) (cap := cap) (wd := wd) (tol := tol) t W ((Kept.of_below h 0).sl s4d) hle (by omega) hok)
   unfold parV at cF cT cC
   rw [hpt] at cT
   rw [hL] at cF cT cC
   have kR := hid (fun W (h : Below W4.drew.heap.size W4.drew W) => range_blk (cs := [Value.slice p L cap, .int .i64 wd, .int .i64 tol]) ((Kept.of_below h 0).same _ _ g4d (.inl rfl)))
   have kT := hid (fun W (h : Below W4.drew.heap.size W4.drew W) => (show W.cell? ⟨n₀, 2, none⟩ = some (.int .i64 tol) from cell_blk (i := 2) ((Kept.of_below h 0).same _ _ g4d (.inl rfl)) rfl))
   obtain ⟨ct, hct⟩ : ∃ x, costAt l t = x := ⟨_, rfl⟩
   obtain ⟨pf, hpf⟩ : ∃ x, penAt l n = x := ⟨_, rfl⟩
   obtain ⟨pt, hpt2⟩ : ∃ x, isPen l t = x := ⟨_, rfl⟩
   rw [hct] at cC hres
   rw [hpf] at cF hres
   rw [hpt2] at cT hres
   have cD := hid (fun W (_ : Below W4.drew.heap.size W4.drew W) => bDem_any bb ct (pf && pt) W)
   replace hres := hid hres
   replace hok := hid hok
   clear hct hpf hpt2 hpt hlb s4 g4 c0 c1 c2 e0 e1 e2 B4
   cases pf with
   | true =>
    rw [Bool.true_and] at cD
    refine wp_region_held_drew (S := (fun W => Below W4.drew.heap.size W4.drew W)) (by kernel_rfl) hst (fun hHeld => ?_)
    generalize W4.drew = W5 at *
    refine tkH 0 (some 51) ?_ rfl (Or.inl ⟨by rfl, ?_⟩) ?_; rotate_left
    ·intro w hSw; (try dsimp only at hSw); go_simp <;> with_reducible rfl
    try simp only [Act.put, aS, aZ, aC]
    refine tkH 1 (some 52) _ rfl (yieldsIf_load_mid (by rfl) 82 _ rfl n₀ 0 rfl [.slice p L cap, .int .i64 wd, .int .i64 tol] _ (fun w h => kR.out w h) Tryz.underlying82 rfl hi7) ?_
    try simp only [Act.put, aS, aZ, aC]
    refine tkH 2 (some 53) ?_ rfl (Or.inl ⟨by rfl, ?_⟩) ?_; rotate_left
    ·intro w hSw; (try dsimp only at hSw); go_simp <;> with_reducible rfl
    try simp only [Act.put, aS, aZ, aC]
    refine tkH 4 (some 55) _ rfl (yieldsIf_load_mid (by rfl) 82 _ rfl n₀ 0 rfl [.slice p L cap, .int .i64 wd, .int .i64 tol] _ (fun w h => kR.out w h) Tryz.underlying82 rfl hi7) ?_
    try simp only [Act.put, aS, aZ, aC]
    refine tkH 5 (some 56) ?_ rfl (Or.inl ⟨by rfl, ?_⟩) ?_; rotate_left
    ·intro w hSw; (try dsimp only at hSw); go_simp <;> with_reducible rfl
    try simp only [Act.put, aS, aZ, aC]
    refine tkH 13 (some 64) ?_ rfl (Or.inl ⟨by rfl, ?_⟩) ?_; rotate_left
    ·intro w hSw; (try dsimp only at hSw); go_simp <;> with_reducible rfl
    try simp only [Act.put, aS, aZ, aC]
    refine tkH 14 (some 65) ?_ rfl (Or.inl ⟨by rfl, ?_⟩) ?_; rotate_left
    ·intro w hSw; (try dsimp only at hSw); go_simp <;> with_reducible rfl
    try simp only [Act.put, aS, aZ, aC]
    refine tkH 15 (some 66) ?_ rfl (Or.inl ⟨by rfl, ?_⟩) ?_; rotate_left
    ·intro w hSw; (try dsimp only at hSw); have h9 := kT.out _ hSw; go_simp <;> with_reducible rfl
    try simp only [Act.put, aS, aZ, aC]
    refine tkH 16 (some 67) ?_ rfl (Or.inl ⟨by rfl, ?_⟩) ?_; rotate_left
    ·intro w hSw; (try dsimp only at hSw); go_simp <;> with_reducible rfl
    try simp only [Act.put, aS, aZ, aC]
    refine wpAnyH_ready (rs := [3]) (by kernel_rfl) (by simp) ?_
    refine AllReadyH.cons (o := ⟨some 54, _, _, _, _, _⟩) rfl (fun K hK => ?_) AllReadyH.nil
    go_simp
    refine (cC.out _ hHeld).mono ?_
    rintro r w7 ⟨rfl, b7⟩
    have b8 := hHeld.trans (b7.mono hHeld.size)
    clear hHeld b7
    refine hK.out _ _ (b8) (fun hHeld => ?_)
    clear hK K
    try simp only [Act.put, aS, aZ, aC]
    refine wpAnyH_ready (rs := [6]) (by kernel_rfl) (by simp) ?_
    refine AllReadyH.cons (o := ⟨some 57, _, _, _, _, _⟩) rfl (fun K hK => ?_) AllReadyH.nil
    go_simp
    refine (cF.out _ hHeld).mono ?_
    rintro r w7 ⟨rfl, b7⟩
    have b8 := hHeld.trans (b7.mono hHeld.size)
    clear hHeld b7
    refine hK.out _ _ (b8) (fun hHeld => ?_)
    clear hK K
    try simp only [Act.put, aS, aZ, aC]
    refine tkH 7 (some 58) ?_ rfl (Or.inl ⟨by rfl, ?_⟩) ?_; rotate_left
    ·intro w hSw; (try dsimp only at hSw); go_simp <;> with_reducible rfl
    try simp only [Act.put, aS, aZ, aC]
    refine tkH 8 (some 59) _ rfl (yieldsIf_load_mid (by rfl) 82 _ rfl n₀ 0 rfl [.slice p L cap, .int .i64 wd, .int .i64 tol] _ (fun w h => kR.out w h) Tryz.underlying82 rfl hi7) ?_
    try simp only [Act.put, aS, aZ, aC]
    refine tkH 9 (some 60) ?_ rfl (Or.inl ⟨by rfl, ?_⟩) ?_; rotate_left
    ·intro w hSw; (try dsimp only at hSw); go_simp <;> with_reducible rfl
    try simp only [Act.put, aS, aZ, aC]
    refine wpAnyH_ready (rs := [10]) (by kernel_rfl) (by simp) ?_
    refine AllReadyH.cons (o := ⟨some 61, _, _, _, _, _⟩) rfl (fun K hK => ?_) AllReadyH.nil
    go_simp
    refine (cT.out _ hHeld).mono ?_
    rintro r w7 ⟨rfl, b7⟩
    have b8 := hHeld.trans (b7.mono hHeld.size)
    clear hHeld b7
    refine hK.out _ _ (b8) (fun hHeld => ?_)
    clear hK K
    try simp only [Act.put, aS, aZ, aC]
    refine tkH 11 (some 62) ?_ rfl (Or.inl ⟨by rfl, ?_⟩) ?_; rotate_left
    ·intro w hSw; (try dsimp only at hSw); go_simp <;> with_reducible rfl
    try simp only [Act.put, aS, aZ, aC]
    refine wpAnyH_ready (rs := [12]) (by kernel_rfl) (by simp) ?_
    refine AllReadyH.cons (o := ⟨some 63, _, _, _, _, _⟩) rfl (fun K hK => ?_) AllReadyH.nil
    go_simp
    refine (cD.out _ hHeld).mono ?_
    rintro r w7 ⟨rfl, rfl⟩
    refine hK.out _ _ (hHeld) (fun hHeld => ?_)
    clear hK K
    try simp only [Act.put, aS, aZ, aC]
    refine tkH 17 (some 6) ?_ rfl (Or.inl ⟨by rfl, ?_⟩) ?_; rotate_left
    ·intro w hSw; (try dsimp only at hSw); go_simp <;> with_reducible rfl
    try simp only [Act.put, aS, aZ, aC]
    refine tkH 18 (some 7) ?_ rfl (Or.inl ⟨by rfl, ?_⟩) ?_; rotate_left
    ·intro w hSw; (try dsimp only at hSw); go_simp <;> with_reducible rfl
    try simp only [Act.put, aS, aZ, aC]
    refine tkH 19 (some 8) ?_ rfl (Or.inl ⟨by rfl, ?_⟩) ?_; rotate_left
    ·intro w hSw; (try dsimp only at hSw); go_simp <;> with_reducible rfl
    try simp only [Act.put, aS, aZ, aC]
    refine wpAnyH_done (by kernel_rfl) ?_ _
    have BZ := B4d.trans (hHeld.mono hz4)
    clear hHeld
    go_wp2_with (fail)
    go_ret3
    exact ⟨by rw [hres.out]; rfl, BZ⟩
   | false =>
    rw [Bool.false_and] at cD
    refine wp_region_held_drew (S := (fun W => Below W4.drew.heap.size W4.drew W)) (by kernel_rfl) hst (fun hHeld => ?_)
    generalize W4.drew = W5 at *
    refine tkH 0 (some 51) ?_ rfl (Or.inl ⟨by rfl, ?_⟩) ?_; rotate_left
    ·intro w hSw; (try dsimp only at hSw); go_simp <;> with_reducible rfl
    try simp only [Act.put, aS, aZ, aC]
    refine tkH 1 (some 52) _ rfl (yieldsIf_load_mid (by rfl) 82 _ rfl n₀ 0 rfl [.slice p L cap, .int .i64 wd, .int .i64 tol] _ (fun w h => kR.out w h) Tryz.underlying82 rfl hi7) ?_
    try simp only [Act.put, aS, aZ, aC]
    refine tkH 2 (some 53) ?_ rfl (Or.inl ⟨by rfl, ?_⟩) ?_; rotate_left
    ·intro w hSw; (try dsimp only at hSw); go_simp <;> with_reducible rfl
    try simp only [Act.put, aS, aZ, aC]
    refine tkH 4 (some 55) _ rfl (yieldsIf_load_mid (by rfl) 82 _ rfl n₀ 0 rfl [.slice p L cap, .int .i64 wd, .int .i64 tol] _ (fun w h => kR.out w h) Tryz.underlying82 rfl hi7) ?_
    try simp only [Act.put, aS, aZ, aC]
    refine tkH 5 (some 56) ?_ rfl (Or.inl ⟨by rfl, ?_⟩) ?_; rotate_left
    ·intro w hSw; (try dsimp only at hSw); go_simp <;> with_reducible rfl
    try simp only [Act.put, aS, aZ, aC]
    refine tkH 13 (some 64) ?_ rfl (Or.inl ⟨by rfl, ?_⟩) ?_; rotate_left
    ·intro w hSw; (try dsimp only at hSw); go_simp <;> with_reducible rfl
    try simp only [Act.put, aS, aZ, aC]
    refine tkH 14 (some 65) ?_ rfl (Or.inl ⟨by rfl, ?_⟩) ?_; rotate_left
    ·intro w hSw; (try dsimp only at hSw); go_simp <;> with_reducible rfl
    try simp only [Act.put, aS, aZ, aC]
    refine tkH 15 (some 66) ?_ rfl (Or.inl ⟨by rfl, ?_⟩) ?_; rotate_left
    ·intro w hSw; (try dsimp only at hSw); have h9 := kT.out _ hSw; go_simp <;> with_reducible rfl
    try simp only [Act.put, aS, aZ, aC]
    refine tkH 16 (some 67) ?_ rfl (Or.inl ⟨by rfl, ?_⟩) ?_; rotate_left
    ·intro w hSw; (try dsimp only at hSw); go_simp <;> with_reducible rfl
    try simp only [Act.put, aS, aZ, aC]
    refine wpAnyH_ready (rs := [3]) (by kernel_rfl) (by simp) ?_
    refine AllReadyH.cons (o := ⟨some 54, _, _, _, _, _⟩) rfl (fun K hK => ?_) AllReadyH.nil
    go_simp
    refine (cC.out _ hHeld).mono ?_
    rintro r w7 ⟨rfl, b7⟩
    have b8 := hHeld.trans (b7.mono hHeld.size)
    clear hHeld b7
    refine hK.out _ _ (b8) (fun hHeld => ?_)
    clear hK K
    try simp only [Act.put, aS, aZ, aC]
    refine wpAnyH_ready (rs := [6]) (by kernel_rfl) (by simp) ?_
    refine AllReadyH.cons (o := ⟨some 57, _, _, _, _, _⟩) rfl (fun K hK => ?_) AllReadyH.nil
    go_simp
    refine (cF.out _ hHeld).mono ?_
    rintro r w7 ⟨rfl, b7⟩
    have b8 := hHeld.trans (b7.mono hHeld.size)
    clear hHeld b7
    refine hK.out _ _ (b8) (fun hHeld => ?_)
    clear hK K
    try simp only [Act.put, aS, aZ, aC]
    refine tkH 7 (some 58) ?_ rfl (Or.inl ⟨by rfl, ?_⟩) ?_; rotate_left
    ·intro w hSw; (try dsimp only at hSw); go_simp <;> with_reducible rfl
    try simp only [Act.put, aS, aZ, aC]
    refine tkH 8 (some 59) _ rfl (Or.inr ⟨by rfl, rfl⟩) ?_
    try simp only [Act.put, aS, aZ, aC]
    refine tkH 9 (some 60) _ rfl (Or.inr ⟨by rfl, rfl⟩) ?_
    try simp only [Act.put, aS, aZ, aC]
    refine tkH 10 (some 61) _ rfl (Or.inr ⟨by rfl, rfl⟩) ?_
    try simp only [Act.put, aS, aZ, aC]
    refine tkH 11 (some 62) ?_ rfl (Or.inl ⟨by rfl, ?_⟩) ?_; rotate_left
    ·intro w hSw; (try dsimp only at hSw); go_simp <;> with_reducible rfl
    try simp only [Act.put, aS, aZ, aC]
    refine wpAnyH_ready (rs := [12]) (by kernel_rfl) (by simp) ?_
    refine AllReadyH.cons (o := ⟨some 63, _, _, _, _, _⟩) rfl (fun K hK => ?_) AllReadyH.nil
    go_simp
    refine (cD.out _ hHeld).mono ?_
    rintro r w7 ⟨rfl, rfl⟩
    refine hK.out _ _ (hHeld) (fun hHeld => ?_)
    clear hK K
    try simp only [Act.put, aS, aZ, aC]
    refine tkH 17 (some 6) ?_ rfl (Or.inl ⟨by rfl, ?_⟩) ?_; rotate_left
    ·intro w hSw; (try dsimp only at hSw); go_simp <;> with_reducible rfl
    try simp only [Act.put, aS, aZ, aC]
    refine tkH 18 (some 7) ?_ rfl (Or.inl ⟨by rfl, ?_⟩) ?_; rotate_left
    ·intro w hSw; (try dsimp only at hSw); go_simp <;> with_reducible rfl
    try simp only [Act.put, aS, aZ, aC]
    refine tkH 19 (some 8) ?_ rfl (Or.inl ⟨by rfl, ?_⟩) ?_; rotate_left
    ·intro w hSw; (try dsimp only at hSw); go_simp <;> with_reducible rfl
    try simp only [Act.put, aS, aZ, aC]
    refine wpAnyH_done (by kernel_rfl) ?_ _
    have BZ := B4d.trans (hHeld.mono hz4)
    clear hHeld
    go_wp2_with (fail)
    go_ret3
    exact ⟨by rw [hres.out]; rfl, BZ⟩
end
end Go.Proofs.YtempicociampoaaGreatDoor
