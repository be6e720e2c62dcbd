/- The walk of the reference's Dec, of any int. -/
import Derived.Test.YtkmnmigpnbehaaaDoorScZ
namespace Go.Proofs.YtkmnmigpnbehaaaDoor
open Go.RowKit Go.Shelf Go.Lib

set_option maxRecDepth 100000 in
set_option maxHeartbeats 400000 in
theorem DecN_any (n : Int) (h : n < 0) (w : World) :
    Calls Tryd.prog 12 #[.int .i64 n] w fun e w' => e = .returned (.string ⟨#[63]⟩) ∧ Below w.heap.size w w' := by
  go_enter Tryd.func12, Tryd.ntmps12
  go_wp2_with (fail)
  go_ret
  exact ⟨rfl, Below.refl _ _⟩
theorem DecS_any (n : Int) (h : n < 9223372036854775808) (w : World) :
    Calls Tryd.prog 12 #[.int .i64 n] w fun e w' => e = .returned (.string ⟨(decS n).toArray⟩) ∧ Below w.heap.size w w' := by
  by_cases h0 : n < 0
  · have e : decS n = [63] := by unfold decS; rw [if_pos h0]
    rw [e]
    exact DecN_any n h0 w
  · obtain ⟨m, rfl⟩ : ∃ m : Nat, n = m := ⟨n.toNat, by omega⟩
    rw [decS_nat]
    exact Dec_any m (by omega) w
end Go.Proofs.YtkmnmigpnbehaaaDoor
