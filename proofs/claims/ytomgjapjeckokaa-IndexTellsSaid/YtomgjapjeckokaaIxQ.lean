/- The walks of the reference's Size and One (printed by gen_ixq.py). -/
import Derived.Test.YtomgjapjeckokaaIxP
namespace Go.Proofs.Ytomgjapjeckokaa
open Go.RowKit Go.Shelf Go.Lib

set_option maxRecDepth 100000 in
set_option maxHeartbeats 400000 in
theorem rSize_any (n : Int) (w : World) (h1 : -9223372036854775808 ≤ n) (h2 : n ≤ 9223372036854775807) :
    Calls Try.prog 19 #[.int .i64 n] w fun e w' => e = .returned (.int .i64 (sizeS n)) ∧ w' = w := by
  by_cases h : n ≤ 0
  · have e : sizeS n = 0 := by unfold sizeS; rw [if_pos h]
    have hI : n < 1 := by omega
    rw [e]
    go_enter Try.func19, Try.ntmps19
    go_wp2_with (fail)
    go_ret
    exact ⟨rfl, rfl⟩
  · have e : sizeS n = (n - 1) / 3 + 2 := by unfold sizeS; rw [if_neg h]
    have hI : ¬ n < 1 := by omega
    have hw : IntKind.i64.wrap (n - 1) = n - 1 := by rw [IntKind.wrap_i64]; omega
    have hq : (n - 1).tdiv 3 = (n - 1) / 3 := Int.tdiv_eq_ediv_of_nonneg (by omega)
    have hw1 : IntKind.i64.wrap ((n - 1) / 3) = (n - 1) / 3 := by rw [IntKind.wrap_i64]; omega
    have hw2 : IntKind.i64.wrap ((n - 1) / 3 + 2) = (n - 1) / 3 + 2 := by rw [IntKind.wrap_i64]; omega
    rw [e]
    clear e
    go_enter Try.func19, Try.ntmps19
    go_wp2_with (fail)
    go_ret
    exact ⟨rfl, rfl⟩

set_option maxRecDepth 100000 in
set_option maxHeartbeats 1000000 in
theorem One_any (e : Ent) (w : World) (hk : e.key.length = 32) :
    Calls Try.prog 38 #[.agg (rowE e)] w fun r w' => r = .returned (.bool (oneE e)) ∧ Below w.heap.size w w' := by
  have g1 := World.alloc_heap_new w (.cells (rowE e) 48)
  have B1 : Below w.heap.size w (w.alloc (.cells (rowE e) 48)) := (Below.refl _ w).alloc (Nat.le_refl _) _
  obtain ⟨c1, c2, c3⟩ := cell_place (o := 0) (range_blk (cs := encE e) g1) hk
  rw [Nat.zero_add] at c1 c2 c3
  clear g1
  rcases oneE_cases e with ⟨q0, q1⟩ | ⟨q0, q1, q2⟩ | ⟨q0, q1, q2, q3⟩ | ⟨q0, q1, q2, q3, q4⟩ | ⟨q0, q1, q2, q3, q4, q5⟩ | ⟨q0, q1, q2, q3, q4, q5, q6⟩ | ⟨q0, q1, q2, q3, q4, q5, q6, q7⟩ | ⟨q0, q1, q2, q3, q4, q5, q6, q7⟩
  · rw [q0]
    clear q0
    have p1 : ¬ 2 ≤ e.place := by omega
    go_enter Try.func38, Try.ntmps38
    go_wp2_with (fail)
    go_ret
    exact ⟨rfl, B1⟩
  · rw [q0]
    clear q0
    have p2 : ¬ e.place ≤ 127 := by omega
    go_enter Try.func38, Try.ntmps38
    go_wp2_with (fail)
    go_ret
    exact ⟨rfl, B1⟩
  · rw [q0]
    clear q0
    have p2 : e.place ≤ 127 := by omega
    have p3 : ¬ 1 ≤ e.blocks := by omega
    go_enter Try.func38, Try.ntmps38
    go_wp2_with (fail)
    go_ret
    exact ⟨rfl, B1⟩
  · rw [q0]
    clear q0
    have p2 : e.place ≤ 127 := by omega
    have p4 : ¬ e.blocks ≤ 8 := by omega
    go_enter Try.func38, Try.ntmps38
    go_wp2_with (fail)
    go_ret
    exact ⟨rfl, B1⟩
  · rw [q0]
    clear q0
    have p2 : e.place ≤ 127 := by omega
    have w5 : IntKind.i64.wrap (e.place + e.blocks) = e.place + e.blocks := by rw [IntKind.wrap_i64]; omega
    have p5 : ¬ e.place + e.blocks ≤ 128 := by omega
    go_enter Try.func38, Try.ntmps38
    go_wp2_with (fail)
    go_ret
    exact ⟨rfl, B1⟩
  · rw [q0]
    clear q0
    have p2 : e.place ≤ 127 := by omega
    have w5 : IntKind.i64.wrap (e.place + e.blocks) = e.place + e.blocks := by rw [IntKind.wrap_i64]; omega
    have p5 : e.place + e.blocks ≤ 128 := by omega
    have p6 : ¬ 0 ≤ e.refs := by omega
    go_enter Try.func38, Try.ntmps38
    go_wp2_with (fail)
    go_ret
    exact ⟨rfl, B1⟩
  · rw [q0]
    clear q0
    have p2 : e.place ≤ 127 := by omega
    have w5 : IntKind.i64.wrap (e.place + e.blocks) = e.place + e.blocks := by rw [IntKind.wrap_i64]; omega
    have p5 : e.place + e.blocks ≤ 128 := by omega
    have p7 : ¬ e.refs ≤ 1000 := by omega
    go_enter Try.func38, Try.ntmps38
    go_wp2_with (fail)
    go_ret
    exact ⟨rfl, B1⟩
  · rw [q0]
    clear q0
    have p2 : e.place ≤ 127 := by omega
    have w5 : IntKind.i64.wrap (e.place + e.blocks) = e.place + e.blocks := by rw [IntKind.wrap_i64]; omega
    have p5 : e.place + e.blocks ≤ 128 := by omega
    go_enter Try.func38, Try.ntmps38
    go_wp2_with (fail)
    go_ret
    exact ⟨rfl, B1⟩
end Go.Proofs.Ytomgjapjeckokaa
