/- The walk of the reference's verbs. -/
import Derived.Test.YtkmnmigpnbehaaaDoorScI
namespace Go.Proofs.YtkmnmigpnbehaaaDoor
open Go.RowKit Go.Shelf Go.Lib

/-- the names of all operations, none ahead -/
def verbsL : List L8 := [] :: formsL.map fun f => f.2.1
set_option maxRecDepth 100000 in
set_option maxHeartbeats 4000000 in
theorem verbs_any (w : World) :
    Calls Tryd.prog 17 #[] w fun e w' => e = .returned (.slice (some ⟨w.heap.size, 0, none⟩) 9 9) ∧ w'.heap[w.heap.size]? = some (.cells (verbsL.map fun x => Value.string ⟨x.toArray⟩).toArray 9 (0, 0)) ∧ Below w.heap.size w w' := by
  go_enter Tryd.func17, Tryd.ntmps17
  go_wp2_with (fail)
  go_ret
  exact ⟨rfl, World.alloc_heap_new w _, (Below.refl _ w).alloc (Nat.le_refl _) _⟩
end Go.Proofs.YtkmnmigpnbehaaaDoor
