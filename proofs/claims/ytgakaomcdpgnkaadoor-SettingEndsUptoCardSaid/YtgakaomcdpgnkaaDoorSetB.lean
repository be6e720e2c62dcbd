/- The walks of setting.moved, measure.First. -/
import Derived.Test.YtgakaomcdpgnkaaDoorSetA
namespace Go.Proofs.YtgakaomcdpgnkaaDoor
open Go.RowKit

theorem mul_bd {d a : Int} (h1 : -100000000 ≤ d) (h2 : d ≤ 100000000) (h3 : 0 ≤ a) (h4 : a ≤ 100000000) : -1000000000000000000 ≤ d * a ∧ d * a ≤ 1000000000000000000 := by
  have e1 : d * a ≤ 100000000 * a := Int.mul_le_mul_of_nonneg_right h2 h3
  have e2 : (-100000000) * a ≤ d * a := Int.mul_le_mul_of_nonneg_right h1 h3
  omega

theorem spread_bd {d a all : Int} (h1 : -1000000000000000000 ≤ d * a) (h2 : d * a ≤ 1000000000000000000) : -1000000000000000000 ≤ spread d a all ∧ spread d a all ≤ 1000000000000000000 := by
  unfold spread
  split
  · omega
  · have e : ((d * a).tdiv all).natAbs ≤ (d * a).natAbs := by rw [Int.natAbs_tdiv]; exact Nat.div_le_self _ _
    generalize (d * a).tdiv all = q at *
    generalize d * a = p at *
    omega

set_option maxRecDepth 100000 in
set_option maxHeartbeats 1000000 in
theorem moved_any (v : Value) (f t d : Int) (s a : Sm) (w : World) (n : Nat) (hn : n ≤ 5001) (hs : s.bd n) (ha : a.bd n) (h1 : -60000000 ≤ d) (h2 : d ≤ 10000) :
    Calls Tryd.prog 44 #[.agg #[v, .int .i64 f, .int .i64 t, .int .i64 d, .int .i64 s.w, .int .i64 s.y, .int .i64 s.z], .agg #[.int .i64 a.w, .int .i64 a.y, .int .i64 a.z]] w
      fun e w' => e = .returned (.int .i64 (moved d s a)) ∧ Below w.heap.size w w' := by
  obtain ⟨⟨s1, s2⟩, ⟨s3, s4⟩, ⟨s5, s6⟩⟩ := hs
  obtain ⟨⟨a1, a2⟩, ⟨a3, a4⟩, ⟨a5, a6⟩⟩ := ha
  have B : ∀ o o', Below w.heap.size w ((w.alloc o).alloc o') := fun o o' => ((Below.refl _ w).alloc (Nat.le_refl _) _).alloc (by simp) _
  by_cases hd : 0 ≤ d
  · have hp := hid (show moved d s a = spread d a.y s.y from if_pos hd)
    have hm := mul_bd (d := d) (a := a.y) (by omega) (by omega) a3 (by omega)
    have hc := fun w => spread_any d a.y s.y w hm.1 hm.2 s3 (by omega)
    have hb := spread_bd (all := s.y) hm.1 hm.2
    generalize spread d a.y s.y = S at *
    clear hm
    replace hc := hid hc
    go_enter Tryd.func44, Tryd.ntmps44
    go_wp2_with (fail)
    refine (hc.out _).mono ?_
    rintro e w' ⟨rfl, rfl⟩
    go_wp2
    go_ret
    exact ⟨ret_int hp.out.symm, B _ _⟩
  · by_cases hz : -d ≤ s.z
    all_goals
      have hm := mul_bd (d := min (-d) s.z) (a := a.z) (by omega) (by omega) a5 (by omega)
      have hp := hid (show moved d s a = -(spread (min (-d) s.z) a.z s.z) from if_neg hd)
      have hc := fun w => spread_any (min (-d) s.z) a.z s.z w hm.1 hm.2 s5 (by omega)
      have hb := spread_bd (all := s.z) hm.1 hm.2
      generalize spread (min (-d) s.z) a.z s.z = S at *
      first | rw [show min (-d) s.z = -d by omega] at hc | rw [show min (-d) s.z = s.z by omega] at hc
      clear hm
      replace hc := hid hc
      go_enter Tryd.func44, Tryd.ntmps44
      go_wp2_with (fail)
      refine (hc.out _).mono ?_
      rintro e w' ⟨rfl, rfl⟩
      go_wp2
      go_ret
      exact ⟨ret_int hp.out.symm, B _ _⟩
end Go.Proofs.YtgakaomcdpgnkaaDoor
