/- Arguments that came in: slices of parts (a number and a slice of strings each). -/
import Derived.Test.YtgbfekimflnaiaaDoorItN
import Derived.Deep.SlicePairs
namespace Go.Proofs.YtgbfekimflnaiaaDoor
open Go.ChangeShapes Go.WideShapes Go.ChangeAt Go.RowKit

section
variable {H : Type} {enc : TypeId × Value → H} {P : Program}
/-- a slice of parts that came in: from its cell's reading -/
theorem open_parts {t e es : TypeId} {f0 f1 : Field} {W : World} {fuel : Nat} {v : Value} {x : DataW H × List MemPlace} (ht : P.underlying t = some (.slice e)) (he : P.underlying e = some (.struct #[f0, f1]))
    (ce : P.cellsOf e = 2) (o0 : f0.offset = 0) (o1 : f1.offset = 1) (c0 : P.cellsOf f0.type = 1) (c1 : P.cellsOf f1.type = 1) (k0 : P.underlying f0.type = some (.int .i64)) (k1 : P.underlying f1.type = some (.slice es))
    (hes : P.underlying es = some .string) (hce : P.cellsOf es = 1)
    (h : DataW.trod enc P W 0 (fun _ => true) true fuel t [v] = some x) : ∃ L : List Pt, Sl W 2 encPt v L ∧ ∀ x ∈ L, Sl W 1 encS x.2.1 x.2.2 := by
  rcases Go.Deep.open_slice_pairs ht he ce o0 o1 c0 c1 h with ⟨hcs, -⟩ | ⟨a, len, cap, m, n, V0, V1, D0, D1, P0, P1, hcs, -, hl, hm, hmm, -, hcell⟩
  · simp at hcs
    subst hcs
    exact ⟨[], .inl ⟨rfl, rfl⟩, by simp⟩
  · simp at hcs
    subst hcs
    simp only [if_true] at hmm
    subst hmm
    have one : ∀ i, i < len → ∃ q : Pt, (V0 i = .int .i64 q.1 ∧ V1 i = q.2.1 ∧ Sl W 1 encS q.2.1 q.2.2) := by
      intro i hi
      obtain ⟨-, -, h3, h4⟩ := hcell i (by omega)
      obtain ⟨y, hy1, -, -⟩ := DataW.trod_int k0 h3
      obtain ⟨ws, -, hs⟩ := open_texts k1 hes hce h4
      simp only [List.cons.injEq, and_true] at hy1
      exact ⟨(y, V1 i, ws), hy1, rfl, hs⟩
    obtain ⟨g, hg⟩ := Go.Deep.choose_lt (α := Pt) one
    have hs0 : (List.range len).map g ≠ [] → a.spot = none := fun hne => by
      have h0 : 0 < len := by
        cases len with
        | zero => simp at hne
        | succ k => omega
      have := (hcell 0 (by omega)).1
      rw [Nat.zero_mul] at this
      obtain ⟨q0, -, -⟩ := hg 0 h0
      rw [q0] at this
      exact add_zero_spot (v := .int .i64 (g 0).1) this
    refine ⟨(List.range len).map g, .inr ⟨a, _, by simp, by simpa using hl, hm, hs0, fun i x hi => ?_⟩, fun x hx => ?_⟩
    · have hlt : i < len := by
        have := (List.getElem?_eq_some_iff.1 hi).1
        simpa using this
      have hx : x = g i := by
        simp [hlt] at hi
        exact hi.symm
      rw [hx]
      have hsp := hs0 (by cases len with | zero => exact absurd hlt (Nat.not_lt_zero _) | succ k => simp)
      obtain ⟨e1, e2, -, -⟩ := hcell i (by omega)
      obtain ⟨q0, q1, -⟩ := hg i hlt
      rw [q0] at e1
      rw [q1] at e2
      obtain ⟨bb, oo, sp⟩ := a
      dsimp only at hsp
      subst hsp
      have ad : ∀ j, (⟨bb, oo, none⟩ : Addr).add j = ⟨bb, oo + j, none⟩ := fun j => by by_cases h : j = 0 <;> simp [Addr.add, h]
      rw [ad] at e1 e2
      intro j u hj
      match j, hj with
      | 0, hj => simp [encPt] at hj; subst hj; exact e1
      | 1, hj => simp [encPt] at hj; subst hj; exact e2
      | j + 2, hj => simp [encPt] at hj
    · obtain ⟨i, hi, rfl⟩ := List.mem_map.1 hx
      exact (hg i (List.mem_range.1 hi)).2.2
end
end Go.Proofs.YtgbfekimflnaiaaDoor
