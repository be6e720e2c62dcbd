/- The walks of a line's text, and of whether a line is broken within a word (printed by gen_lnk.py). -/
import Derived.Test.YtempicociampoaaGreatDoorJ0
import Derived.Test.YtempicociampoaaGreatDoorJ3
import Derived.Test.YtempicociampoaaGreatDoorSetK
import Derived.Test.YtempicociampoaaGreatDoorJ21
import Derived.Test.YtempicociampoaaGreatDoorJ7
import Derived.Deep.RegionHeld3
namespace Go.Proofs.YtempicociampoaaGreatDoor
open Go.RowKit Go.Shelf Go.Lib

def pcB (ps : List (Int × ByteArray)) : Prop := ∀ p ∈ ps, -1000000000000000000 ≤ p.1 ∧ p.1 ≤ 1000000000000000000 ∧ p.2.size ≤ 2000000
theorem pcB.take {ps : List (Int × ByteArray)} (h : pcB ps) (k : Nat) : pcB (ps.take k) := fun p hp => h p (List.mem_of_mem_take hp)
theorem infoPc2 : (Tryz.prog.info? 47).map (·.size) = some 2 := by kernel_rfl
theorem dash_eq {T : ByteArray} (h : T.data.toList = [45]) : T = ⟨#[45]⟩ := by
 obtain ⟨⟨l⟩⟩ := T
 simp at h
 subst h; rfl
set_option maxRecDepth 100000 in
set_option maxHeartbeats 4000000 in
theorem broken_any (v : Value) (ps : List (Int × ByteArray)) (W1 : World) (hl : Sl W1 2 encPc v ps) (hb : pcB ps) (hT : Tabs W1) :
  Calls Tryz.prog 31 #[v] W1 fun e w' => e = .returned (.bool (brokenS tw ps)) ∧ Below W1.heap.size W1 w' := by
 by_cases h1 : 1 < ps.length
 ·obtain ⟨b, o, cap, rfl, h2, h3, h4⟩ := hl.open (by rintro rfl; simp at h1)
  obtain ⟨N, hN⟩ : ∃ n, ps.length - 1 = n := ⟨_, rfl⟩
  have hx : ps[N]? = some ps[N] := List.getElem?_eq_getElem (by omega)
  obtain ⟨x1, x2⟩ := piece_cells (h4 N _ hx)
  have hgd : ps.getD N pc0 = ps[N] := by rw [List.getD_eq_getElem?_getD, hx]; rfl
  have hbr : brokenS tw ps = (decide (ps[N].2.data.toList = [45]) && decide (endW tw (ps.take N) = ps[N].1)) := by
   unfold brokenS
   rw [hN, hgd, decide_eq_true h1, Bool.true_and]
  obtain ⟨sv, hsv, hsvs, p9, c9, rfl⟩ := slice_take (P := Tryz.prog) (enc := encPc) 42 47 2 (by kernel_rfl) infoPc2 (k := N) (by omega) hl
  have cW := hid (fun W (h : Below W1.drew.heap.size W1.drew W) => Wide_any (.slice p9 N c9) (ps.take N) W (hsvs W ((Kept.of_below h 0).sl ((Kept.drew 0 W1).sl hl))) (hb.take N) ((hT.below (Below.drew (Below.refl _ W1))).below h))
  have kT := hid (fun W (h : Below W1.drew.heap.size W1.drew W) => ((h.cell (p := ⟨b, o + N * 2 + 1, none⟩) (cell_lt (show W1.drew.cell? _ = _ from x2))).trans (show W1.drew.cell? _ = _ from x2)))
  have kX := hid (fun W (h : Below W1.drew.heap.size W1.drew W) => ((h.cell (p := ⟨b, o + N * 2, none⟩) (cell_lt (show W1.drew.cell? _ = _ from x1))).trans (show W1.drew.cell? _ = _ from x1)))
  obtain ⟨L, hL⟩ : ∃ n, ps.length = n := ⟨_, rfl⟩
  rw [hL] at h1 h2 hsv hN ⊢
  have hNw : IntKind.i64.wrap ((L : Int) - 1) = (N : Int) := by unfold maxLen at h3; rw [IntKind.wrap_i64]; omega
  have hN0 : (0 : Int) < (N : Int) := by omega
  have hNL : (N : Int) < (L : Int) := by omega
  have hN1 : 0 < N := by omega
  obtain ⟨E, hE⟩ : ∃ x, endW tw (ps.take N) = x := ⟨_, rfl⟩
  obtain ⟨⟨X, T⟩, hXT⟩ : ∃ x, ps[N] = x := ⟨_, rfl⟩
  rw [hXT] at hbr kT kX
  rw [hE] at hbr cW
  dsimp only at hbr kT kX
  replace hsv := hid hsv
  clear hx x1 x2 h4 hgd hXT hsvs hE hl
  replace hN := hid hN
  replace hL := hid hL
  by_cases hd : T.data.toList = [45]
  ·obtain rfl := dash_eq hd
   have hres := hid (show brokenS tw ps = decide (E = X) by rw [hbr]; rfl)
   clear hbr hd

   go_enter Tryz.func31, Tryz.ntmps31
   go_upto_region 2 with (fail)
   have hst : (fun W => Below W1.drew.heap.size W1.drew W) W1.drew := Below.refl _ _
   have BD : Below W1.drew.heap.size W1 W1.drew := (Below.refl _ W1).drewN 1
   have hz5 : W1.drew.heap.size = W1.heap.size := rfl
   refine wp_region_held_drew (S := (fun W => Below W1.drew.heap.size W1.drew W)) (by kernel_rfl) hst (fun hHeld => ?_)
   generalize W1.drew = W5 at *
   refine tkH 0 (some 7) ?_ rfl (Or.inl ⟨by rfl, ?_⟩) ?_; rotate_left
   ·intro w hSw; (try dsimp only at hSw); go_simp <;> with_reducible rfl
   try simp only [Act.put, aS, aZ, aC]
   refine tkH 1 (some 8) ?_ rfl (Or.inl ⟨by rfl, ?_⟩) ?_; rotate_left
   ·intro w hSw; (try dsimp only at hSw); go_simp <;> with_reducible rfl
   try simp only [Act.put, aS, aZ, aC]
   refine tkH 2 (some 9) ?_ rfl (Or.inl ⟨by rfl, ?_⟩) ?_; rotate_left
   ·intro w hSw; (try dsimp only at hSw); go_simp <;> with_reducible rfl
   try simp only [Act.put, aS, aZ, aC]
   refine tkH 3 (some 10) ?_ rfl (Or.inl ⟨by rfl, ?_⟩) ?_; rotate_left
   ·intro w hSw; (try dsimp only at hSw); go_simp <;> with_reducible rfl
   try simp only [Act.put, aS, aZ, aC]
   refine tkH 4 (some 11) ?_ rfl (Or.inl ⟨by rfl, ?_⟩) ?_; rotate_left
   ·intro w hSw; (try dsimp only at hSw); go_simp <;> with_reducible rfl
   try simp only [Act.put, aS, aZ, aC]
   refine tkH 5 (some 12) ?_ rfl (Or.inl ⟨by rfl, ?_⟩) ?_; rotate_left
   ·intro w hSw; (try dsimp only at hSw); go_simp <;> with_reducible rfl
   try simp only [Act.put, aS, aZ, aC]
   refine tkH 6 (some 13) ?_ rfl (Or.inl ⟨by rfl, ?_⟩) ?_; rotate_left
   ·intro w hSw; (try dsimp only at hSw); go_simp <;> with_reducible rfl
   try simp only [Act.put, aS, aZ, aC]
   refine tkH 7 (some 14) ?_ rfl (Or.inl ⟨by rfl, ?_⟩) ?_; rotate_left
   ·intro w hSw; (try dsimp only at hSw); have h9 := kT.out _ hSw; go_simp <;> with_reducible rfl
   try simp only [Act.put, aS, aZ, aC]
   refine tkH 8 (some 15) ?_ rfl (Or.inl ⟨by rfl, ?_⟩) ?_; rotate_left
   ·intro w hSw; (try dsimp only at hSw); go_simp <;> with_reducible rfl
   try simp only [Act.put, aS, aZ, aC]
   refine tkH 9 (some 16) ?_ rfl (Or.inl ⟨by rfl, ?_⟩) ?_; rotate_left
   ·intro w hSw; (try dsimp only at hSw); go_simp <;> with_reducible rfl
   try simp only [Act.put, aS, aZ, aC]
   refine tkH 10 (some 17) ?_ rfl (Or.inl ⟨by rfl, ?_⟩) ?_; rotate_left
   ·intro w hSw; (try dsimp only at hSw); go_simp <;> with_reducible rfl
   try simp only [Act.put, aS, aZ, aC]
   refine tkH 11 (some 18) ?_ rfl (Or.inl ⟨by rfl, ?_⟩) ?_; rotate_left
   ·intro w hSw; (try dsimp only at hSw); go_simp <;> with_reducible rfl
   try simp only [Act.put, aS, aZ, aC]
   refine tkH 12 (some 19) ?_ rfl (Or.inl ⟨by rfl, ?_⟩) ?_; rotate_left
   ·intro w hSw; (try dsimp only at hSw); go_simp <;> with_reducible rfl
   try simp only [Act.put, aS, aZ, aC]
   refine tkH 13 (some 20) _ rfl (yieldsIf_slice (by rfl) 42 (.tmp 18) none (some (.tmp 19)) rfl (.slice p9 N c9) (hsv.out)) ?_
   try simp only [Act.put, aS, aZ, aC]
   refine tkH 15 (some 22) ?_ rfl (Or.inl ⟨by rfl, ?_⟩) ?_; rotate_left
   ·intro w hSw; (try dsimp only at hSw); go_simp <;> with_reducible rfl
   try simp only [Act.put, aS, aZ, aC]
   refine tkH 16 (some 23) ?_ rfl (Or.inl ⟨by rfl, ?_⟩) ?_; rotate_left
   ·intro w hSw; (try dsimp only at hSw); go_simp <;> with_reducible rfl
   try simp only [Act.put, aS, aZ, aC]
   refine tkH 17 (some 24) ?_ rfl (Or.inl ⟨by rfl, ?_⟩) ?_; rotate_left
   ·intro w hSw; (try dsimp only at hSw); go_simp <;> with_reducible rfl
   try simp only [Act.put, aS, aZ, aC]
   refine tkH 18 (some 25) ?_ rfl (Or.inl ⟨by rfl, ?_⟩) ?_; rotate_left
   ·intro w hSw; (try dsimp only at hSw); go_simp <;> with_reducible rfl
   try simp only [Act.put, aS, aZ, aC]
   refine tkH 19 (some 26) ?_ rfl (Or.inl ⟨by rfl, ?_⟩) ?_; rotate_left
   ·intro w hSw; (try dsimp only at hSw); have h9 := kX.out _ hSw; go_simp <;> with_reducible rfl
   try simp only [Act.put, aS, aZ, aC]
   refine wpAnyH_ready (rs := [14]) (by kernel_rfl) (by simp) ?_
   refine AllReadyH.cons (o := ⟨some 21, _, _, _, _, _⟩) rfl (fun K hK => ?_) AllReadyH.nil
   go_simp
   refine (cW.out _ hHeld).mono ?_
   rintro r w7 ⟨rfl, b7⟩
   have b8 := hHeld.trans (b7.mono hHeld.size)
   clear hHeld b7
   refine hK.out _ _ (b8) (fun hHeld => ?_)
   clear hK K
   try simp only [Act.put, aS, aZ, aC]
   refine tkH 20 (some 27) ?_ rfl (Or.inl ⟨by rfl, ?_⟩) ?_; rotate_left
   ·intro w hSw; (try dsimp only at hSw); go_simp <;> with_reducible rfl
   try simp only [Act.put, aS, aZ, aC]
   refine tkH 21 (some 28) ?_ rfl (Or.inl ⟨by rfl, ?_⟩) ?_; rotate_left
   ·intro w hSw; (try dsimp only at hSw); go_simp <;> with_reducible rfl
   try simp only [Act.put, aS, aZ, aC]
   refine tkH 22 (some 2) ?_ rfl (Or.inl ⟨by rfl, ?_⟩) ?_; rotate_left
   ·intro w hSw; (try dsimp only at hSw); go_simp <;> with_reducible rfl
   try simp only [Act.put, aS, aZ, aC]
   refine wpAnyH_done (by kernel_rfl) ?_ _
   have BX := BD.trans hHeld
   clear hHeld
   go_wp2_with (fail)
   go_ret
   rw [hz5] at BX
   exact ⟨by rw [hres.out]; rfl, BX⟩
  ·have hres := hid (show brokenS tw ps = false by rw [hbr, decide_eq_false hd]; rfl)
   have kQ : (T.toList == [45]) = false := by rw [Lib.toList_data]; simpa using hd
   clear hbr hd
   go_enter Tryz.func31, Tryz.ntmps31
   go_upto_region 2 with (fail)
   have hst : (fun W => Below W1.drew.heap.size W1.drew W) W1.drew := Below.refl _ _
   have BD : Below W1.drew.heap.size W1 W1.drew := (Below.refl _ W1).drewN 1
   have hz5 : W1.drew.heap.size = W1.heap.size := rfl
   refine wp_region_held_drew (S := (fun W => Below W1.drew.heap.size W1.drew W)) (by kernel_rfl) hst (fun hHeld => ?_)
   generalize W1.drew = W5 at *
   refine tkH 0 (some 7) ?_ rfl (Or.inl ⟨by rfl, ?_⟩) ?_; rotate_left
   ·intro w hSw; (try dsimp only at hSw); go_simp <;> with_reducible rfl
   try simp only [Act.put, aS, aZ, aC]
   refine tkH 1 (some 8) ?_ rfl (Or.inl ⟨by rfl, ?_⟩) ?_; rotate_left
   ·intro w hSw; (try dsimp only at hSw); go_simp <;> with_reducible rfl
   try simp only [Act.put, aS, aZ, aC]
   refine tkH 2 (some 9) ?_ rfl (Or.inl ⟨by rfl, ?_⟩) ?_; rotate_left
   ·intro w hSw; (try dsimp only at hSw); go_simp <;> with_reducible rfl
   try simp only [Act.put, aS, aZ, aC]
   refine tkH 3 (some 10) ?_ rfl (Or.inl ⟨by rfl, ?_⟩) ?_; rotate_left
   ·intro w hSw; (try dsimp only at hSw); go_simp <;> with_reducible rfl
   try simp only [Act.put, aS, aZ, aC]
   refine tkH 4 (some 11) ?_ rfl (Or.inl ⟨by rfl, ?_⟩) ?_; rotate_left
   ·intro w hSw; (try dsimp only at hSw); go_simp <;> with_reducible rfl
   try simp only [Act.put, aS, aZ, aC]
   refine tkH 5 (some 12) ?_ rfl (Or.inl ⟨by rfl, ?_⟩) ?_; rotate_left
   ·intro w hSw; (try dsimp only at hSw); go_simp <;> with_reducible rfl
   try simp only [Act.put, aS, aZ, aC]
   refine tkH 6 (some 13) ?_ rfl (Or.inl ⟨by rfl, ?_⟩) ?_; rotate_left
   ·intro w hSw; (try dsimp only at hSw); go_simp <;> with_reducible rfl
   try simp only [Act.put, aS, aZ, aC]
   refine tkH 7 (some 14) ?_ rfl (Or.inl ⟨by rfl, ?_⟩) ?_; rotate_left
   ·intro w hSw; (try dsimp only at hSw); have h9 := kT.out _ hSw; go_simp <;> with_reducible rfl
   try simp only [Act.put, aS, aZ, aC]
   refine tkH 8 (some 15) ?_ rfl (Or.inl ⟨by rfl, ?_⟩) ?_; rotate_left
   ·intro w hSw; (try dsimp only at hSw); go_simp <;> with_reducible rfl
   try simp only [Act.put, aS, aZ, aC]
   refine tkH 9 (some 16) ?_ rfl (Or.inl ⟨by rfl, ?_⟩) ?_; rotate_left
   ·intro w hSw; (try dsimp only at hSw); go_simp <;> with_reducible rfl
   try simp only [Act.put, aS, aZ, aC]
   refine tkH 10 (some 17) ?_ rfl (Or.inl ⟨by rfl, ?_⟩) ?_; rotate_left
   ·intro w hSw; (try dsimp only at hSw); go_simp <;> with_reducible rfl
   try simp only [Act.put, aS, aZ, aC]
   refine tkH 11 (some 18) _ rfl (Or.inr ⟨by rfl, rfl⟩) ?_
   try simp only [Act.put, aS, aZ, aC]
   refine tkH 12 (some 19) _ rfl (Or.inr ⟨by rfl, rfl⟩) ?_
   try simp only [Act.put, aS, aZ, aC]
   refine tkH 13 (some 20) _ rfl (Or.inr ⟨by rfl, rfl⟩) ?_
   try simp only [Act.put, aS, aZ, aC]
   refine tkH 14 (some 21) _ rfl (Or.inr ⟨by rfl, rfl⟩) ?_
   try simp only [Act.put, aS, aZ, aC]
   refine tkH 15 (some 22) _ rfl (Or.inr ⟨by rfl, rfl⟩) ?_
   try simp only [Act.put, aS, aZ, aC]
   refine tkH 16 (some 23) _ rfl (Or.inr ⟨by rfl, rfl⟩) ?_
   try simp only [Act.put, aS, aZ, aC]
   refine tkH 17 (some 24) _ rfl (Or.inr ⟨by rfl, rfl⟩) ?_
   try simp only [Act.put, aS, aZ, aC]
   refine tkH 18 (some 25) _ rfl (Or.inr ⟨by rfl, rfl⟩) ?_
   try simp only [Act.put, aS, aZ, aC]
   refine tkH 19 (some 26) _ rfl (Or.inr ⟨by rfl, rfl⟩) ?_
   try simp only [Act.put, aS, aZ, aC]
   refine tkH 20 (some 27) _ rfl (Or.inr ⟨by rfl, rfl⟩) ?_
   try simp only [Act.put, aS, aZ, aC]
   refine tkH 21 (some 28) ?_ rfl (Or.inl ⟨by rfl, ?_⟩) ?_; rotate_left
   ·intro w hSw; (try dsimp only at hSw); go_simp <;> with_reducible rfl
   try simp only [Act.put, aS, aZ, aC]
   refine tkH 22 (some 2) ?_ rfl (Or.inl ⟨by rfl, ?_⟩) ?_; rotate_left
   ·intro w hSw; (try dsimp only at hSw); go_simp <;> with_reducible rfl
   try simp only [Act.put, aS, aZ, aC]
   refine wpAnyH_done (by kernel_rfl) ?_ _
   have BX := BD.trans hHeld
   clear hHeld
   go_wp2_with (fail)
   go_ret
   rw [hz5] at BX
   exact ⟨by rw [hres.out]; rfl, BX⟩

 ·have hres := hid (show brokenS tw ps = false by unfold brokenS; rw [decide_eq_false h1]; rfl)
  obtain ⟨p, cap, rfl, -⟩ := hl.shape
  obtain ⟨L, hL⟩ : ∃ n, ps.length = n := ⟨_, rfl⟩
  rw [hL] at h1 ⊢
  clear hL hl hb
  have hLw : L = 0 ∨ L = 1 := by omega
  rcases hLw with rfl | rfl
  all_goals
   go_enter Tryz.func31, Tryz.ntmps31
   go_upto_region 2 with (fail)
   have hst : (fun W => Below W1.drew.heap.size W1.drew W) W1.drew := Below.refl _ _
   have BD : Below W1.drew.heap.size W1 W1.drew := (Below.refl _ W1).drewN 1
   have hz5 : W1.drew.heap.size = W1.heap.size := rfl
   refine wp_region_held_drew (S := (fun W => Below W1.drew.heap.size W1.drew W)) (by kernel_rfl) hst (fun hHeld => ?_)
   generalize W1.drew = W5 at *
   refine tkH 0 (some 7) ?_ rfl (Or.inl ⟨by rfl, ?_⟩) ?_; rotate_left
   ·intro w hSw; (try dsimp only at hSw); go_simp <;> with_reducible rfl
   try simp only [Act.put, aS, aZ, aC]
   refine tkH 1 (some 8) ?_ rfl (Or.inl ⟨by rfl, ?_⟩) ?_; rotate_left
   ·intro w hSw; (try dsimp only at hSw); go_simp <;> with_reducible rfl
   try simp only [Act.put, aS, aZ, aC]
   refine tkH 2 (some 9) ?_ rfl (Or.inl ⟨by rfl, ?_⟩) ?_; rotate_left
   ·intro w hSw; (try dsimp only at hSw); go_simp <;> with_reducible rfl
   try simp only [Act.put, aS, aZ, aC]
   refine tkH 3 (some 10) _ rfl (Or.inr ⟨by rfl, rfl⟩) ?_
   try simp only [Act.put, aS, aZ, aC]
   refine tkH 4 (some 11) _ rfl (Or.inr ⟨by rfl, rfl⟩) ?_
   try simp only [Act.put, aS, aZ, aC]
   refine tkH 5 (some 12) _ rfl (Or.inr ⟨by rfl, rfl⟩) ?_
   try simp only [Act.put, aS, aZ, aC]
   refine tkH 6 (some 13) _ rfl (Or.inr ⟨by rfl, rfl⟩) ?_
   try simp only [Act.put, aS, aZ, aC]
   refine tkH 7 (some 14) _ rfl (Or.inr ⟨by rfl, rfl⟩) ?_
   try simp only [Act.put, aS, aZ, aC]
   refine tkH 8 (some 15) _ rfl (Or.inr ⟨by rfl, rfl⟩) ?_
   try simp only [Act.put, aS, aZ, aC]
   refine tkH 9 (some 16) ?_ rfl (Or.inl ⟨by rfl, ?_⟩) ?_; rotate_left
   ·intro w hSw; (try dsimp only at hSw); go_simp <;> with_reducible rfl
   try simp only [Act.put, aS, aZ, aC]
   refine tkH 10 (some 17) ?_ rfl (Or.inl ⟨by rfl, ?_⟩) ?_; rotate_left
   ·intro w hSw; (try dsimp only at hSw); go_simp <;> with_reducible rfl
   try simp only [Act.put, aS, aZ, aC]
   refine tkH 11 (some 18) _ rfl (Or.inr ⟨by rfl, rfl⟩) ?_
   try simp only [Act.put, aS, aZ, aC]
   refine tkH 12 (some 19) _ rfl (Or.inr ⟨by rfl, rfl⟩) ?_
   try simp only [Act.put, aS, aZ, aC]
   refine tkH 13 (some 20) _ rfl (Or.inr ⟨by rfl, rfl⟩) ?_
   try simp only [Act.put, aS, aZ, aC]
   refine tkH 14 (some 21) _ rfl (Or.inr ⟨by rfl, rfl⟩) ?_
   try simp only [Act.put, aS, aZ, aC]
   refine tkH 15 (some 22) _ rfl (Or.inr ⟨by rfl, rfl⟩) ?_
   try simp only [Act.put, aS, aZ, aC]
   refine tkH 16 (some 23) _ rfl (Or.inr ⟨by rfl, rfl⟩) ?_
   try simp only [Act.put, aS, aZ, aC]
   refine tkH 17 (some 24) _ rfl (Or.inr ⟨by rfl, rfl⟩) ?_
   try simp only [Act.put, aS, aZ, aC]
   refine tkH 18 (some 25) _ rfl (Or.inr ⟨by rfl, rfl⟩) ?_
   try simp only [Act.put, aS, aZ, aC]
   refine tkH 19 (some 26) _ rfl (Or.inr ⟨by rfl, rfl⟩) ?_
   try simp only [Act.put, aS, aZ, aC]
   refine tkH 20 (some 27) _ rfl (Or.inr ⟨by rfl, rfl⟩) ?_
   try simp only [Act.put, aS, aZ, aC]
   refine tkH 21 (some 28) ?_ rfl (Or.inl ⟨by rfl, ?_⟩) ?_; rotate_left
   ·intro w hSw; (try dsimp only at hSw); go_simp <;> with_reducible rfl
   try simp only [Act.put, aS, aZ, aC]
   refine tkH 22 (some 2) ?_ rfl (Or.inl ⟨by rfl, ?_⟩) ?_; rotate_left
   ·intro w hSw; (try dsimp only at hSw); go_simp <;> with_reducible rfl
   try simp only [Act.put, aS, aZ, aC]
   refine wpAnyH_done (by kernel_rfl) ?_ _
   have BX := BD.trans hHeld
   clear hHeld
   go_wp2_with (fail)
   go_ret
   rw [hz5] at BX
   exact ⟨by rw [hres.out]; rfl, BX⟩

theorem lineTo_le {tw : ByteArray → Int} {ps : List (Int × ByteArray)} {k m : Nat} (h : k ≤ m) : (lineTo tw ps k).length ≤ (lineTo tw ps m).length := by
 induction m with
 | zero =>
  obtain rfl : k = 0 := by omega
  exact Nat.le_refl _
 | succ m ih =>
  by_cases e : k = m + 1
  ·subst e; exact Nat.le_refl _
  ·refine Nat.le_trans (ih (by omega)) ?_
   rw [lineTo, List.length_append, List.length_append]; omega
set_option maxRecDepth 100000 in
set_option maxHeartbeats 4000000 in
theorem ltext_any (v : Value) (ps : List (Int × ByteArray)) (w : World) (hl : Sl w 2 encPc v ps) (hb : pcB ps) (hn : (lineT tw ps).length ≤ 1000000) (hT : Tabs w) :
  Calls Tryz.prog 33 #[v] w fun e w' => e = .returned (.string ⟨(lineT tw ps).toArray⟩) ∧ Below w.heap.size w w' := by
 obtain ⟨p, cap, rfl, hmx⟩ := hl.shape
 unfold maxLen at hmx
 go_enter Tryz.func33, Tryz.ntmps33
 go_wp2_with (fail)
 have hb0 : (w.alloc (.cells #[.pointer none, .slice none 0 0] 68)).heap[w.heap.size]? = some (.cells #[.pointer none, .slice none 0 0] 68 (0, 0)) := World.alloc_heap_new w _
 have hbs : Lib.IsBuilderF 68 5 w.heap.size w.heap.size (Lib.byteCells (lineTo tw ps 0)) (w.alloc (.cells #[.pointer none, .slice none 0 0] 68)) :=
  .inl ⟨Nat.le_refl _, _, hb0, World.ownsRowF_of (World.ownsRow_nil _ _ _ _), by simp [Value.ownBlock]⟩
 go_loopw [8] (fun i wr => ∃ k : Nat, k ≤ ps.length ∧ i = .int .i64 k ∧ Lib.IsBuilderF 68 5 w.heap.size w.heap.size (Lib.byteCells (lineTo tw ps k)) wr ∧ Below w.heap.size w wr) (fun i _ => ps.length - (RowKit.intOf i).toNat)
 case atStart => exact ⟨0, Nat.zero_le _, rfl, hbs, (Below.refl _ _).alloc (Nat.le_refl _) _⟩
 case round =>
  obtain ⟨k, hk, rfl, hbu, hB⟩ := hrel
  have hzr := hB.size
  by_cases hkl : k < ps.length
  ·skip
   have hkI : (k : Int) < (ps.length : Int) := by omega
   obtain ⟨b, o, cap', he, h1, h2, h3⟩ := hl.open (by rintro rfl; simp at hkl)
   simp only [Value.slice.injEq] at he
   obtain ⟨rfl, -, rfl⟩ := he
   have hx : ps[k]? = some ps[k] := List.getElem?_eq_getElem hkl
   obtain ⟨x1, x2⟩ := piece_cells ((Kept.of_below hB 0).range (h3 k _ hx))
   have hgd : ps.getD k pc0 = ps[k] := by rw [List.getD_eq_getElem?_getD, hx]; rfl
   have hto : lineTo tw ps (k + 1) = lineTo tw ps k ++ (if gapK tw ps k = true then [32] else []) ++ ps[k].2.data.toList := by rw [lineTo, hgd]
   have hlt := lineTo_le (tw := tw) (ps := ps) (show k + 1 ≤ ps.length by omega)
   have hln : (lineTo tw ps ps.length).length ≤ 1000000 := hn
   have hgk : gapK tw ps k = (decide (0 < k) && !decide (endW tw (ps.take k) = ps[k].1)) := by unfold gapK; rw [hgd]
   obtain ⟨sv, hsv, hsvs, p9, c9, rfl⟩ := slice_take (P := Tryz.prog) (enc := encPc) 42 47 2 (by kernel_rfl) infoPc2 (k := k) (by omega) hl
   have hpx := hb _ (List.getElem_mem hkl)
   obtain ⟨⟨X, T⟩, hXT⟩ : ∃ x, ps[k] = x := ⟨_, rfl⟩
   rw [hXT] at hto hgk x1 x2 hpx
   dsimp only at hto hgk x1 x2 hpx
   clear hx hgd hXT h3
   go_upto_region 5 with (fail)
   have g4 := World.alloc_heap_new wr (.cells #[.int .i64 X, .string T] 47)
   have hB4 := hB.alloc hzr (.cells #[.int .i64 X, .string T] 47)
   have hbu4 := hbu.alloc (.cells #[.int .i64 X, .string T] 47)
   obtain ⟨n5, hn5⟩ : ∃ n, wr.heap.size = n := ⟨_, rfl⟩
   obtain ⟨W4, hW4⟩ : ∃ W : World, W = wr.alloc (.cells #[.int .i64 X, .string T] 47) := ⟨_, rfl⟩
   rw [hn5, ← hW4] at g4
   rw [← hW4] at hB4 hbu4 ⊢
   rw [hn5] at hzr ⊢
   clear hW4 hn5 x1 x2 hbu hB
   have bd : Below W4.drew.heap.size W4 W4.drew := (Below.refl _ W4).drewN 1
   have hB5 : Below w.heap.size w W4.drew := Below.drew hB4
   have hbu5 : Lib.IsBuilderF 68 5 w.heap.size w.heap.size (Lib.byteCells (lineTo tw ps k)) W4.drew := isb_below hbu4 bd
   have hz5 : w.heap.size ≤ W4.drew.heap.size := hB5.size
   have g5 : W4.drew.heap[n5]? = some (.cells #[.int .i64 X, .string T] 47 (0, 0)) := g4
   have hst : (fun W => Below W4.drew.heap.size W4.drew W) W4.drew := Below.refl _ _
   have kX := hid (fun W (h : Below W4.drew.heap.size W4.drew W) => (show W.cell? ⟨n5, 0, none⟩ = some (.int .i64 X) from cell_blk (i := 0) ((Kept.of_below h 0).same _ _ g5 (.inl rfl)) rfl))
   have kT := hid (fun W (h : Below W4.drew.heap.size W4.drew W) => (show W.cell? ⟨n5, 1, none⟩ = some (.string T) from cell_blk (i := 1) ((Kept.of_below h 0).same _ _ g5 (.inl rfl)) rfl))
   have cW := hid (fun W (h : Below W4.drew.heap.size W4.drew W) => Wide_any (.slice p9 k c9) (ps.take k) W (hsvs W ((Kept.of_below (hB5.trans (h.mono hz5)) 0).sl hl)) (hb.take k) (hT.below (hB5.trans (h.mono hz5))))
   obtain ⟨E, hE⟩ : ∃ x, endW tw (ps.take k) = x := ⟨_, rfl⟩
   rw [hE] at hgk cW
   clear hE hbu4 hB4 bd g4 hsvs
   rw [hto] at hlt
   simp only [List.length_append, size_toList] at hlt
   replace hto := hid hto
   replace hsv := hid hsv
   obtain ⟨LK, hLK⟩ : ∃ x, lineTo tw ps k = x := ⟨_, rfl⟩
   obtain ⟨LE, hLE⟩ : ∃ x, (lineTo tw ps ps.length).length = x := ⟨_, rfl⟩
   rw [hLE] at hlt hln
   rw [hLK] at hto hbu5 hlt
   clear hLE hn
   have hlen : (Lib.byteCells LK).length = LK.length := by simp [Lib.byteCells]
   by_cases k0 : 0 < k
   ·have k0I : (0 : Int) < (k : Int) := by omega
    by_cases hEX : E = X
    ·subst hEX
     rw [hgk] at hto hlt
     simp only [decide_true, Bool.not_true, Bool.and_false, Bool.false_eq_true, if_false] at hto hlt
     clear hgk
     refine wp_region_held_drew (S := (fun W => Below W4.drew.heap.size W4.drew W)) (by kernel_rfl) hst (fun hHeld => ?_)
     generalize W4.drew = W5 at *
     refine tkH 0 (some 13) ?_ rfl (Or.inl ⟨by rfl, ?_⟩) ?_; rotate_left
     ·intro w hSw; (try dsimp only at hSw); go_simp <;> with_reducible rfl
     try simp only [Act.put, aS, aZ, aC]
     refine tkH 1 (some 14) ?_ rfl (Or.inl ⟨by rfl, ?_⟩) ?_; rotate_left
     ·intro w hSw; (try dsimp only at hSw); go_simp <;> with_reducible rfl
     try simp only [Act.put, aS, aZ, aC]
     refine tkH 2 (some 15) ?_ rfl (Or.inl ⟨by rfl, ?_⟩) ?_; rotate_left
     ·intro w hSw; (try dsimp only at hSw); go_simp <;> with_reducible rfl
     try simp only [Act.put, aS, aZ, aC]
     refine tkH 3 (some 16) ?_ rfl (Or.inl ⟨by rfl, ?_⟩) ?_; rotate_left
     ·intro w hSw; (try dsimp only at hSw); go_simp <;> with_reducible rfl
     try simp only [Act.put, aS, aZ, aC]
     refine tkH 4 (some 17) ?_ rfl (Or.inl ⟨by rfl, ?_⟩) ?_; rotate_left
     ·intro w hSw; (try dsimp only at hSw); go_simp <;> with_reducible rfl
     try simp only [Act.put, aS, aZ, aC]
     refine tkH 5 (some 18) _ rfl (yieldsIf_slice (by rfl) 42 (.tmp 16) none (some (.tmp 17)) rfl (.slice p9 k c9) (hsv.out)) ?_
     try simp only [Act.put, aS, aZ, aC]
     refine tkH 7 (some 20) ?_ rfl (Or.inl ⟨by rfl, ?_⟩) ?_; rotate_left
     ·intro w hSw; (try dsimp only at hSw); go_simp <;> with_reducible rfl
     try simp only [Act.put, aS, aZ, aC]
     refine tkH 8 (some 21) ?_ rfl (Or.inl ⟨by rfl, ?_⟩) ?_; rotate_left
     ·intro w hSw; (try dsimp only at hSw); have h9 := kX.out _ hSw; go_simp <;> with_reducible rfl
     try simp only [Act.put, aS, aZ, aC]
     refine wpAnyH_ready (rs := [6]) (by kernel_rfl) (by simp) ?_
     refine AllReadyH.cons (o := ⟨some 19, _, _, _, _, _⟩) rfl (fun K hK => ?_) AllReadyH.nil
     go_simp
     refine (cW.out _ hHeld).mono ?_
     rintro r w7 ⟨rfl, b7⟩
     have b8 := hHeld.trans (b7.mono hHeld.size)
     clear hHeld b7
     refine hK.out _ _ (b8) (fun hHeld => ?_)
     clear hK K
     try simp only [Act.put, aS, aZ, aC]
     refine tkH 9 (some 22) ?_ rfl (Or.inl ⟨by rfl, ?_⟩) ?_; rotate_left
     ·intro w hSw; (try dsimp only at hSw); go_simp <;> with_reducible rfl
     try simp only [Act.put, aS, aZ, aC]
     refine tkH 10 (some 23) ?_ rfl (Or.inl ⟨by rfl, ?_⟩) ?_; rotate_left
     ·intro w hSw; (try dsimp only at hSw); go_simp <;> with_reducible rfl
     try simp only [Act.put, aS, aZ, aC]
     refine wpAnyH_done (by kernel_rfl) ?_ _
     have hB7 := hB5.trans (hHeld.mono hz5)
     have hbu7 := isb_below hbu5 hHeld
     have kT7 := kT.out _ hHeld
     clear hHeld
     go_wp2_with (fail)
     refine (WriteString_any w.heap.size w.heap.size _ T w7 hbu7 (by simp only [List.length_nil, Lib.byteCells, List.length_map] at *; omega) hB7.size).mono ?_
     rintro e w6 ⟨rfl, hb6, b6⟩
     go_wp2_with (fail)
     refine ⟨⟨k + 1, by omega, by go_num, ?_, hB7.trans b6⟩, by simp [RowKit.intOf]; omega⟩
     rw [hto.out, List.append_nil, byteCells_app]
     exact .inr hb6
    ·rw [hgk, decide_eq_true k0, decide_eq_false hEX] at hto hlt
     simp only [Bool.not_false, Bool.and_true, if_true] at hto hlt
     have hEX1 : (E != X) = true := by simpa using hEX
     clear hgk
     refine wp_region_held_drew (S := (fun W => Below W4.drew.heap.size W4.drew W)) (by kernel_rfl) hst (fun hHeld => ?_)
     generalize W4.drew = W5 at *
     refine tkH 0 (some 13) ?_ rfl (Or.inl ⟨by rfl, ?_⟩) ?_; rotate_left
     ·intro w hSw; (try dsimp only at hSw); go_simp <;> with_reducible rfl
     try simp only [Act.put, aS, aZ, aC]
     refine tkH 1 (some 14) ?_ rfl (Or.inl ⟨by rfl, ?_⟩) ?_; rotate_left
     ·intro w hSw; (try dsimp only at hSw); go_simp <;> with_reducible rfl
     try simp only [Act.put, aS, aZ, aC]
     refine tkH 2 (some 15) ?_ rfl (Or.inl ⟨by rfl, ?_⟩) ?_; rotate_left
     ·intro w hSw; (try dsimp only at hSw); go_simp <;> with_reducible rfl
     try simp only [Act.put, aS, aZ, aC]
     refine tkH 3 (some 16) ?_ rfl (Or.inl ⟨by rfl, ?_⟩) ?_; rotate_left
     ·intro w hSw; (try dsimp only at hSw); go_simp <;> with_reducible rfl
     try simp only [Act.put, aS, aZ, aC]
     refine tkH 4 (some 17) ?_ rfl (Or.inl ⟨by rfl, ?_⟩) ?_; rotate_left
     ·intro w hSw; (try dsimp only at hSw); go_simp <;> with_reducible rfl
     try simp only [Act.put, aS, aZ, aC]
     refine tkH 5 (some 18) _ rfl (yieldsIf_slice (by rfl) 42 (.tmp 16) none (some (.tmp 17)) rfl (.slice p9 k c9) (hsv.out)) ?_
     try simp only [Act.put, aS, aZ, aC]
     refine tkH 7 (some 20) ?_ rfl (Or.inl ⟨by rfl, ?_⟩) ?_; rotate_left
     ·intro w hSw; (try dsimp only at hSw); go_simp <;> with_reducible rfl
     try simp only [Act.put, aS, aZ, aC]
     refine tkH 8 (some 21) ?_ rfl (Or.inl ⟨by rfl, ?_⟩) ?_; rotate_left
     ·intro w hSw; (try dsimp only at hSw); have h9 := kX.out _ hSw; go_simp <;> with_reducible rfl
     try simp only [Act.put, aS, aZ, aC]
     refine wpAnyH_ready (rs := [6]) (by kernel_rfl) (by simp) ?_
     refine AllReadyH.cons (o := ⟨some 19, _, _, _, _, _⟩) rfl (fun K hK => ?_) AllReadyH.nil
     go_simp
     refine (cW.out _ hHeld).mono ?_
     rintro r w7 ⟨rfl, b7⟩
     have b8 := hHeld.trans (b7.mono hHeld.size)
     clear hHeld b7
     refine hK.out _ _ (b8) (fun hHeld => ?_)
     clear hK K
     try simp only [Act.put, aS, aZ, aC]
     refine tkH 9 (some 22) ?_ rfl (Or.inl ⟨by rfl, ?_⟩) ?_; rotate_left
     ·intro w hSw; (try dsimp only at hSw); go_simp <;> with_reducible rfl
     try simp only [Act.put, aS, aZ, aC]
     refine tkH 10 (some 23) ?_ rfl (Or.inl ⟨by rfl, ?_⟩) ?_; rotate_left
     ·intro w hSw; (try dsimp only at hSw); go_simp <;> with_reducible rfl
     try simp only [Act.put, aS, aZ, aC]
     refine wpAnyH_done (by kernel_rfl) ?_ _
     have hB7 := hB5.trans (hHeld.mono hz5)
     have hbu7 := isb_below hbu5 hHeld
     have kP7 := (Kept.of_below hHeld 0).same _ _ g5 (.inl rfl)
     clear hHeld
     go_wp2_with (fail)
     refine (WriteByte_keep w.heap.size w.heap.size _ 32 w7 hbu7 (by simp only [List.length_cons, List.length_nil, Lib.byteCells, List.length_map] at *; omega) hB7.size).mono ?_
     rintro e w8 ⟨rfl, ⟨hb8, b8⟩, ho8⟩
     have kP8 := ho8 _ _ _ _ kP7 (by decide) (by decide)
     have kT8 : w8.cell? ⟨n5, 1, none⟩ = some (.string T) := cell_blk (i := 1) kP8 rfl
     have hB8 := hB7.trans b8
     go_wp2_with (fail)
     refine (WriteString_any w.heap.size w.heap.size _ T w8 (.inr hb8) (by simp only [List.length_append, List.length_cons, List.length_nil, Lib.byteCells, List.length_map] at *; omega) hB8.size).mono ?_
     rintro e w6 ⟨rfl, hb6, b6⟩
     go_wp2_with (fail)
     refine ⟨⟨k + 1, by omega, by go_num, ?_, hB8.trans b6⟩, by simp [RowKit.intOf]; omega⟩
     rw [hto.out, byteCells_app, byteCells_app]
     exact .inr hb6
   ·obtain rfl : k = 0 := by omega
    rw [hgk] at hto hlt
    simp only [Nat.lt_irrefl, decide_false, Bool.false_and, Bool.false_eq_true, if_false] at hto hlt
    clear hgk
    refine wp_region_held_drew (S := (fun W => Below W4.drew.heap.size W4.drew W)) (by kernel_rfl) hst (fun hHeld => ?_)
    generalize W4.drew = W5 at *
    refine tkH 0 (some 13) ?_ rfl (Or.inl ⟨by rfl, ?_⟩) ?_; rotate_left
    ·intro w hSw; (try dsimp only at hSw); go_simp <;> with_reducible rfl
    try simp only [Act.put, aS, aZ, aC]
    refine tkH 1 (some 14) ?_ rfl (Or.inl ⟨by rfl, ?_⟩) ?_; rotate_left
    ·intro w hSw; (try dsimp only at hSw); go_simp <;> with_reducible rfl
    try simp only [Act.put, aS, aZ, aC]
    refine tkH 2 (some 15) ?_ rfl (Or.inl ⟨by rfl, ?_⟩) ?_; rotate_left
    ·intro w hSw; (try dsimp only at hSw); go_simp <;> with_reducible rfl
    try simp only [Act.put, aS, aZ, aC]
    refine tkH 3 (some 16) _ rfl (Or.inr ⟨by rfl, rfl⟩) ?_
    try simp only [Act.put, aS, aZ, aC]
    refine tkH 4 (some 17) _ rfl (Or.inr ⟨by rfl, rfl⟩) ?_
    try simp only [Act.put, aS, aZ, aC]
    refine tkH 5 (some 18) _ rfl (Or.inr ⟨by rfl, rfl⟩) ?_
    try simp only [Act.put, aS, aZ, aC]
    refine tkH 6 (some 19) _ rfl (Or.inr ⟨by rfl, rfl⟩) ?_
    try simp only [Act.put, aS, aZ, aC]
    refine tkH 7 (some 20) _ rfl (Or.inr ⟨by rfl, rfl⟩) ?_
    try simp only [Act.put, aS, aZ, aC]
    refine tkH 8 (some 21) _ rfl (Or.inr ⟨by rfl, rfl⟩) ?_
    try simp only [Act.put, aS, aZ, aC]
    refine tkH 9 (some 22) _ rfl (Or.inr ⟨by rfl, rfl⟩) ?_
    try simp only [Act.put, aS, aZ, aC]
    refine tkH 10 (some 23) ?_ rfl (Or.inl ⟨by rfl, ?_⟩) ?_; rotate_left
    ·intro w hSw; (try dsimp only at hSw); go_simp <;> with_reducible rfl
    try simp only [Act.put, aS, aZ, aC]
    refine wpAnyH_done (by kernel_rfl) ?_ _
    have hB7 := hB5.trans (hHeld.mono hz5)
    have hbu7 := isb_below hbu5 hHeld
    have kT7 := kT.out _ hHeld
    clear hHeld
    go_wp2_with (fail)
    refine (WriteString_any w.heap.size w.heap.size _ T W5 hbu7 (by simp only [List.length_nil, Lib.byteCells, List.length_map] at *; omega) hB7.size).mono ?_
    rintro e w6 ⟨rfl, hb6, b6⟩
    go_wp2_with (fail)
    refine ⟨⟨0 + 1, by omega, by go_num, ?_, hB7.trans b6⟩, by simp [RowKit.intOf]; omega⟩
    rw [hto.out, List.append_nil, byteCells_app]
    exact .inr hb6
  ·skip
   obtain rfl : k = ps.length := by omega
   have hst := Tryz.Builder_String_any_k w.heap.size w.heap.size (lineTo tw ps ps.length) wr hbu hB.size
   obtain ⟨S, hS⟩ : ∃ S : ByteArray, (⟨(lineTo tw ps ps.length).toArray⟩ : ByteArray) = S := ⟨_, rfl⟩
   rw [hS] at hst
   replace hS := hid hS
   clear hbu hl
   go_wp2_with (fail)
   refine hst.mono ?_
   rintro e w' ⟨rfl, -, hbel, -⟩
   go_wp2
   go_ret
   exact ⟨by rw [← hS.out]; rfl, hB.trans hbel⟩
end Go.Proofs.YtempicociampoaaGreatDoor
