/- Arguments that came in: slices of strings, structs of five fields. -/
import Derived.Test.YtgbfekimflnaiaaDoorLaw
import Derived.Deep.Strs
import Derived.Lib.SmallJoins
namespace Go.Proofs.YtgbfekimflnaiaaDoor
open Go.ChangeShapes Go.WideShapes Go.ChangeAt Go.RowKit

def encS (s : ByteArray) : List Value := [.string s]

section
variable {H : Type} {enc : TypeId × Value → H} {P : Program}
/-- a slice of strings that came in: from its cell's reading -/
theorem open_texts {t e : TypeId} {W : World} {fuel : Nat} {v : Value} {x : DataW H × List MemPlace} (ht : P.underlying t = some (.slice e)) (he : P.underlying e = some .string) (hce : P.cellsOf e = 1)
    (h : DataW.trod enc P W 0 (fun _ => true) true fuel t [v] = some x) : ∃ l : List ByteArray, (∀ s ∈ l, s.size ≤ maxLen) ∧ Sl W 1 encS v l := by
  rcases Go.Deep.open_strs ht he hce h with ⟨hcs, -⟩ | ⟨a, len, cap, m, S, hcs, -, hl, hm, hmm, -, hcell⟩
  · simp at hcs
    subst hcs
    exact ⟨[], by simp, .inl ⟨rfl, rfl⟩⟩
  · simp at hcs
    subst hcs
    simp only [if_true] at hmm
    subst hmm
    have hs0 : (List.range len).map S ≠ [] → a.spot = none := fun hne => by
      have h0 : 0 < len := by
        cases len with
        | zero => simp at hne
        | succ k => omega
      have := (hcell 0 (by omega)).1
      exact add_zero_spot (v := .string (S 0)) (by simpa [Addr.add] using this)
    refine ⟨(List.range len).map S, fun s hs => ?_, .inr ⟨a, _, by simp, by simpa using hl, hm, hs0, fun i x hi => ?_⟩⟩
    · obtain ⟨i, hi, rfl⟩ := List.mem_map.1 hs
      exact (hcell i (by have := List.mem_range.1 hi; omega)).2
    · have hlt : i < len := by
        have := (List.getElem?_eq_some_iff.1 hi).1
        simpa using this
      have hx : x = S i := by
        simp [hlt] at hi
        exact hi.symm
      rw [hx]
      intro j u hj
      match j, hj with
      | 0, hj =>
        simp [encS] at hj; subst hj
        have hsp := hs0 (by cases len with | zero => exact absurd hlt (Nat.not_lt_zero _) | succ k => simp)
        have := (hcell i (by omega)).1
        obtain ⟨bb, oo, sp⟩ := a
        dsimp only at hsp
        subst hsp
        rw [show (⟨bb, oo, none⟩ : Addr).add i = ⟨bb, oo + i, none⟩ by by_cases h : i = 0 <;> simp [Addr.add, h]] at this
        simpa using this
      | j + 1, hj => simp [encS] at hj
end
end Go.Proofs.YtgbfekimflnaiaaDoor
