/- Arguments that came in: slices of bools. -/
import Derived.Test.YtgakaomcdpgnkaaDoorLaw2
import Derived.Deep.Grids
namespace Go.Proofs.YtgakaomcdpgnkaaDoor
open Go.ChangeShapes Go.WideShapes Go.ChangeAt Go.RowKit

def encF (b : Bool) : List Value := [.bool b]

section
variable {H : Type} {enc : TypeId × Value → H} {P : Program}
/-- a slice of bools that came in: from its cell's reading -/
theorem open_flags {t e : TypeId} {W : World} {fuel : Nat} {v : Value} {x : DataW H × List MemPlace} (ht : P.underlying t = some (.slice e)) (he : P.underlying e = some .bool) (hce : P.cellsOf e = 1)
    (h : DataW.trod enc P W 0 (fun _ => true) true fuel t [v] = some x) : ∃ l : List Bool, Sl W 1 encF v l := by
  rcases Go.Deep.open_bools ht he hce h with ⟨hcs, -⟩ | ⟨a, len, cap, S, hcs, -, hl, hm, -, hcell⟩
  · simp at hcs
    subst hcs
    exact ⟨[], .inl ⟨rfl, rfl⟩⟩
  · simp at hcs
    subst hcs
    have hs0 : (List.range len).map S ≠ [] → a.spot = none := fun hne => by
      have h0 : 0 < len := by
        cases len with
        | zero => simp at hne
        | succ k => omega
      have := hcell 0 (by omega)
      exact add_zero_spot (v := .bool (S 0)) (by simpa [Addr.add] using this)
    refine ⟨(List.range len).map S, .inr ⟨a, _, by simp, by simpa using hl, hm, hs0, fun i x hi => ?_⟩⟩
    have hlt : i < len := by
      have := (List.getElem?_eq_some_iff.1 hi).1
      simpa using this
    have hx : x = S i := by
      simp [hlt] at hi
      exact hi.symm
    rw [hx]
    intro j u hj
    match j, hj with
    | 0, hj =>
      simp [encF] at hj; subst hj
      have hsp := hs0 (by cases len with | zero => exact absurd hlt (Nat.not_lt_zero _) | succ k => simp)
      have := hcell i (by omega)
      obtain ⟨bb, oo, sp⟩ := a
      dsimp only at hsp
      subst hsp
      rw [show (⟨bb, oo, none⟩ : Addr).add i = ⟨bb, oo + i, none⟩ by by_cases h : i = 0 <;> simp [Addr.add, h]] at this
      simpa using this
    | j + 1, hj => simp [encF] at hj
end
end Go.Proofs.YtgakaomcdpgnkaaDoor
