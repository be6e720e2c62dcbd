/- The walks of keep's comparisons. -/
import Derived.Test.YtgbfekimflnaiaaDoorLib
namespace Go.Proofs.YtgbfekimflnaiaaDoor
open Go.RowKit

theorem take_succ_eq {α : Type} [DecidableEq α] {a b : List α} {k : Nat} (ha : k < a.length) (hb : k < b.length) :
    a.take (k + 1) = b.take (k + 1) ↔ a.take k = b.take k ∧ a[k] = b[k] := by
  rw [List.take_succ_eq_append_getElem ha, List.take_succ_eq_append_getElem hb]
  constructor
  · intro h
    have := List.append_inj h (by simp; omega)
    exact ⟨this.1, by simpa using this.2⟩
  · rintro ⟨h1, h2⟩; rw [h1, h2]

end Go.Proofs.YtgbfekimflnaiaaDoor
