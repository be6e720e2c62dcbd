/- The walk of the reference's Points. -/
import Derived.Test.YtempicociampoaaGreatDoorHypY
import Derived.Test.YtempicociampoaaGreatDoorJ14
namespace Go.Proofs.YtempicociampoaaGreatDoor
open Go.RowKit Go.Shelf

set_option maxRecDepth 100000 in
set_option maxHeartbeats 4000000 in
theorem RPoints_any (s : ByteArray) (w : World) (hs : s.size ≤ 2000000) :
  Calls Tryz.prog 63 #[.string s] w fun e w' => ∃ v, e = .returned v ∧ Sl w' 1 encI v (pointsL (numbersL s.data.toList)) ∧ Below w.heap.size w w' := by
 have hc1 := hid (RNumbers_any s w hs)
 have hdg := dig_numbersL s.data.toList
 have hln := numbersL_len s.data.toList
 generalize numbersL s.data.toList = NL at *
 have hPL := hid (show pointsL NL = if NL.length + 1 < 5 then [] else pointsTo NL NL.length from rfl)
 generalize pointsL NL = PL at *
 obtain ⟨i0, hi, hz0, hz1, hz2⟩ := info_parts Tryz.infoI
 go_enter Tryz.func63, Tryz.ntmps63
 go_wp2_with (fail)
 refine hc1.out.mono ?_
 rintro e w1 ⟨v, rfl, hsl, hB1⟩
 obtain ⟨pu, cu, rfl, hu⟩ := hsl.shape
 by_cases hl5 : (5 : Int) ≤ NL.length + 1
 ·replace hPL := hid (show PL = pointsTo NL NL.length by rw [hPL.out, if_neg (by omega)])
  go_wp2_with (fail)
  go_loopw [4, 6] (fun v i wr => ∃ k : Nat, k ≤ NL.length ∧ i = .int .i64 k ∧ (∃ u, v = u ∧ wr.ownsRow w1.heap.size 3 1 u (pointsTo NL k).length ((pointsTo NL k).flatMap encI)) ∧ Below w1.heap.size w1 wr) (fun _ i _ => NL.length - (RowKit.intOf i).toNat)
  case atStart => exact ⟨0, Nat.zero_le _, rfl, ⟨_, rfl, World.ownsRow_nil _ _ _ _⟩, Below.refl _ _⟩
  case round =>
   obtain ⟨k, hk, rfl, ⟨_, rfl, hrow⟩, hB⟩ := hrel
   obtain ⟨pv, cv, rfl, hv1, hv2⟩ := owns_shape hrow
   unfold maxLen at hv2
   by_cases hkl : k < NL.length
   ·skip
    obtain ⟨nb, no, cap, e1, e2, e3, e4⟩ := hsl.open (by rintro rfl; simp at hkl)
    simp only [Value.slice.injEq] at e1
    obtain ⟨rfl, -, rfl⟩ := e1
    have hck := rangeAt_one (e4 k NL[k] (List.getElem?_eq_getElem hkl))
    rw [Nat.mul_one] at hck
    have hnlt : nb < w1.heap.size := by
     cases h5 : w1.heap[nb]? with
     | none => simp [World.cell?, h5] at hck
     | some o => exact (Array.getElem?_eq_some_iff.1 h5).1
    have hckr := (hB.cell (p := ⟨nb, no + k, none⟩) hnlt).trans hck
    have hkI : (k : Int) < NL.length := by omega
    have hnd := hdg NL[k] (List.getElem_mem _)
    have hpt : pointsTo NL (k + 1) = pointsTo NL k ++ (if NL[k] % 2 = 1 ∧ 2 ≤ k + 1 ∧ k + 1 + 3 ≤ NL.length + 1 then [((k : Int) + 1)] else []) := by
     rw [pointsTo, List.getD_eq_getElem?_getD, List.getElem?_eq_getElem hkl]; rfl
    have hpl := pointsTo_len NL k
    replace hpt := hid hpt
    clear hck e4
    generalize NL[k] = n at *
    by_cases c1 : n % 2 = 1
    ·by_cases c2 : (2 : Int) ≤ k + 1
     ·by_cases c3 : (3 : Int) ≤ NL.length + 1 - (k + 1)
      ·have hq := hid (show pointsTo NL (k + 1) = pointsTo NL k ++ [(k : Int) + 1] by rw [hpt.out, if_pos ⟨c1, by omega, by omega⟩])
       go_wp2_with (at_builtin; go_must (refine wpList_append_own _ rfl _ _ 50 rfl w1.heap.size 3 i0 (.int .i64 0) 1 8 Tryz.underlying50 hi hz0 hz1 hz2 rfl (by decide) _ (pointsTo NL k).length _ rfl (hrow.alloc _) ⟨_, 0, none⟩ 1 1 [.int .i64 ((k : Int) + 1)] rfl rfl (cells_new _ _ _) (by simp [Value.oneCell']) (by unfold maxLen; omega) (by omega) (by have := hB.size; simp; omega) ?_; intro v' w2 hown' hgrow _))
       have hB2 := hB.alloc hB.size (.cells #[.int .i64 ((k : Int) + 1)] 3)
       refine ⟨⟨k + 1, by omega, by go_num, ⟨_, rfl, ?_⟩, hB2.grown hgrow hB2.size (fun j e => own_base hrow e)⟩, by simp [RowKit.intOf]; omega⟩
       rw [hq.out]; simpa [encI] using hown'
      ·have hq : pointsTo NL (k + 1) = pointsTo NL k := by rw [hpt.out, if_neg (by omega), List.append_nil]
       replace hq := hid hq
       go_wp2_with (fail)
       exact ⟨⟨k + 1, by omega, by go_num, ⟨_, rfl, by rw [hq.out]; exact hrow⟩, hB⟩, by simp [RowKit.intOf]; omega⟩
     ·have hq : pointsTo NL (k + 1) = pointsTo NL k := by rw [hpt.out, if_neg (by omega), List.append_nil]
      replace hq := hid hq
      go_wp2_with (fail)
      exact ⟨⟨k + 1, by omega, by go_num, ⟨_, rfl, by rw [hq.out]; exact hrow⟩, hB⟩, by simp [RowKit.intOf]; omega⟩
    ·have hq : pointsTo NL (k + 1) = pointsTo NL k := by rw [hpt.out, if_neg (by omega), List.append_nil]
     replace hq := hid hq
     go_wp2_with (fail)
     exact ⟨⟨k + 1, by omega, by go_num, ⟨_, rfl, by rw [hq.out]; exact hrow⟩, hB⟩, by simp [RowKit.intOf]; omega⟩
   ·obtain rfl : k = NL.length := by omega
    have hsl2 : Sl wr 1 encI (.slice pv (pointsTo NL NL.length).length cv) (pointsTo NL NL.length) := sl_of_owns (e := 3) (base := w1.heap.size) (fun _ _ => rfl) hrow
    go_wp2_with (fail)
    go_ret
    refine ⟨_, rfl, ?_, hB1.trans (hB.mono hB1.size)⟩
    rw [hPL.out]
    exact hsl2
 ·replace hPL := hid (show PL = [] by rw [hPL.out, if_pos (by omega)])
  go_wp2_with (fail)
  go_loopw [4, 6] (fun v i wr => ∃ k : Nat, k ≤ NL.length ∧ i = .int .i64 k ∧ v = .slice none 0 0 ∧ wr = w1) (fun _ i _ => NL.length - (RowKit.intOf i).toNat)
  case atStart => exact ⟨0, Nat.zero_le _, rfl, rfl, rfl⟩
  case round =>
   obtain ⟨k, hk, rfl, rfl, rfl⟩ := hrel
   by_cases hkl : k < NL.length
   ·have hkI : (k : Int) < NL.length := by omega
    go_wp2_with (fail)
    exact ⟨⟨k + 1, by omega, by go_num, by simp⟩, by simp [RowKit.intOf]; omega⟩
   ·go_wp2_with (fail)
    go_ret
    refine ⟨_, rfl, ?_, hB1⟩
    rw [hPL.out]
    exact .inl ⟨rfl, rfl⟩
end Go.Proofs.YtempicociampoaaGreatDoor
