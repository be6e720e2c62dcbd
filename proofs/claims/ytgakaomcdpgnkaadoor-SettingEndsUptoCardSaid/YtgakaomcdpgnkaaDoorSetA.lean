/- The walks of measure's small functions and of setting's: Plain, First, spread, moved. -/
import Derived.Test.YtgakaomcdpgnkaaDoorSetP
import Derived.Deep.QuietTactic
import Derived.BigQuiet
namespace Go.Proofs.YtgakaomcdpgnkaaDoor
open Go.RowKit

set_option maxHeartbeats 400000 in
theorem Plain_any (n : Int) (w : World) (h : w64 n) :
    Calls Tryd.prog 30 #[.int .i64 n] w fun e w' => e = .returned (.int .i64 (plain n)) ∧ w = w' := by
  obtain ⟨h1, h2⟩ := h
  by_cases h0 : n < 0
  · have hp := hid (plain_out (.inl h0))
    go_enter Tryd.func30, Tryd.ntmps30
    go_wp2
    go_ret
    exact ⟨ret_int hp.out.symm, rfl⟩
  · by_cases h3 : 10000 < n
    · have hp := hid (plain_out (.inr h3))
      go_enter Tryd.func30, Tryd.ntmps30
      go_wp2
      go_ret
      exact ⟨ret_int hp.out.symm, rfl⟩
    · have hp := hid (plain_eq (n := n) (by omega) (by omega))
      go_enter Tryd.func30, Tryd.ntmps30
      go_wp2
      go_ret
      exact ⟨ret_int hp.out.symm, rfl⟩

set_option maxHeartbeats 400000 in
theorem N_any (n : Int) (w : World) (h : w64 n) :
    Calls Tryd.prog 27 #[.int .i64 n] w fun e w' => e = .returned (.int .i64 (plain n)) ∧ w = w' := by
  obtain ⟨h1, h2⟩ := h
  by_cases h0 : n < 0
  · have hp := hid (plain_out (.inl h0))
    go_enter Tryd.func27, Tryd.ntmps27
    go_wp2
    go_ret
    exact ⟨ret_int hp.out.symm, rfl⟩
  · by_cases h3 : 10000 < n
    · have hp := hid (plain_out (.inr h3))
      go_enter Tryd.func27, Tryd.ntmps27
      go_wp2
      go_ret
      exact ⟨ret_int hp.out.symm, rfl⟩
    · have hp := hid (plain_eq (n := n) (by omega) (by omega))
      go_enter Tryd.func27, Tryd.ntmps27
      go_wp2
      go_ret
      exact ⟨ret_int hp.out.symm, rfl⟩

set_option maxHeartbeats 400000 in
theorem spread_any (d a all : Int) (w : World) (h1 : -1000000000000000000 ≤ d * a) (h2 : d * a ≤ 1000000000000000000) (h3 : 0 ≤ all) (h4 : all ≤ 1000000000000) :
    Calls Tryd.prog 53 #[.int .i64 d, .int .i64 a, .int .i64 all] w fun e w' => e = .returned (.int .i64 (spread d a all)) ∧ w = w' := by
  by_cases h0 : all = 0
  · have hp := hid (show spread d a all = 0 from if_pos h0)
    have q : (all == 0) = true := by simpa using h0
    go_enter Tryd.func53, Tryd.ntmps53
    go_wp2
    go_ret
    exact ⟨ret_int hp.out.symm, rfl⟩
  · have hp := hid (show spread d a all = (d * a).tdiv all from if_neg h0)
    have q : (all == 0) = false := by simpa using h0
    go_enter Tryd.func53, Tryd.ntmps53
    go_wp2
    go_ret
    exact ⟨ret_int hp.out.symm, rfl⟩
end Go.Proofs.YtgakaomcdpgnkaaDoor
