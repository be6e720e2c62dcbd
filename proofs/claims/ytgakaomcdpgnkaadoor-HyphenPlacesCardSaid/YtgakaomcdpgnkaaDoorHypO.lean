/- Plain laws of HyphenPlaces. -/
import Derived.Test.YtgakaomcdpgnkaaDoorHypR
namespace Go.Proofs.YtgakaomcdpgnkaaDoor
open Go.RowKit

theorem turnL_nil (l : List Int) : turnL [] l = l := by cases l <;> rfl
theorem turnL_step : ∀ (L : List Int) (G : List Bool) (i : Nat) (h1 : i < G.length) (h2 : i < L.length), turnL (G.take (i + 1)) L = (turnL (G.take i) L).set i (turnS G[i] L[i])
  | [], G, i, _, h2 => by simp at h2
  | x :: l, [], i, h1, _ => by simp at h1
  | x :: l, g :: gs, 0, _, _ => by simp [turnL, turnL_nil]
  | x :: l, g :: gs, i + 1, h1, h2 => by
    have := turnL_step l gs i (by simpa using h1) (by simpa using h2)
    simp [turnL, this]
theorem turnL_at : ∀ (L : List Int) (G : List Bool) (i : Nat), (turnL (G.take i) L)[i]? = L[i]?
  | [], G, i => by cases h : G.take i <;> rfl
  | x :: l, [], i => by rw [List.take_nil, turnL_nil]
  | x :: l, g :: gs, 0 => by simp [turnL_nil]
  | x :: l, g :: gs, i + 1 => by
    have := turnL_at l gs i
    simp [turnL, this]
theorem turnL_past : ∀ (L : List Int) (G : List Bool) (i : Nat), L.length ≤ i → turnL (G.take i) L = turnL G L
  | [], G, i, _ => by cases h : G.take i <;> cases G <;> rfl
  | x :: l, [], i, _ => by rw [List.take_nil]
  | x :: l, g :: gs, 0, h => by simp at h
  | x :: l, g :: gs, i + 1, h => by
    have := turnL_past l gs i (by simpa using h)
    simp [turnL, this]

theorem set_same {l : List Int} {q : Nat} {x : Int} (h : l[q]? = some x) : l.set q x = l := by
  refine List.ext_getElem? fun i => ?_
  rw [List.getElem?_set]
  split
  · rename_i e; subst e
    split
    · rw [h]
    · rename_i h2; rw [List.getElem?_eq_none (by omega)]
  · rfl
theorem turn_same {L : List Int} {G : List Bool} {i : Nat} (h1 : i < G.length) (h2 : i < L.length) (h : turnS G[i] L[i] = L[i]) : turnL (G.take (i + 1)) L = turnL (G.take i) L := by
  rw [turnL_step L G i h1 h2, h]
  exact set_same ((turnL_at L G i).trans (List.getElem?_eq_getElem h2))
/-- where a word may be broken, and how many places stand ahead -/
def mayB (NL : List Int) (k : Nat) : Prop := NL.getD k 0 % 2 = 1 ∧ 2 ≤ k + 1 ∧ k + 1 + 3 ≤ NL.length + 1
def cnt (NL : List Int) (k : Nat) : Nat := if NL.length + 1 < 5 then 0 else (pointsTo NL k).length
theorem cnt_zero (NL : List Int) : cnt NL 0 = 0 := by unfold cnt; split <;> rfl
theorem cnt_end (NL : List Int) : cnt NL NL.length = (pointsL NL).length := by unfold cnt pointsL; split <;> rfl
theorem cnt_no {NL : List Int} {k : Nat} (h : ¬ (NL.getD k 0 % 2 = 1 ∧ 1 ≤ k ∧ k + 1 + 3 ≤ NL.length + 1 ∧ 5 ≤ NL.length + 1)) : cnt NL (k + 1) = cnt NL k := by
  unfold cnt
  split
  · rfl
  · rw [pointsTo, if_neg (by omega), List.append_nil]
theorem cnt_yes {NL : List Int} {k : Nat} (hk : k < NL.length) (h : NL.getD k 0 % 2 = 1 ∧ 1 ≤ k ∧ k + 1 + 3 ≤ NL.length + 1 ∧ 5 ≤ NL.length + 1) :
    cnt NL (k + 1) = cnt NL k + 1 ∧ (pointsL NL)[cnt NL k]? = some ((k : Int) + 1) := by
  have h5 : ¬ NL.length + 1 < 5 := by omega
  have e : pointsTo NL (k + 1) = pointsTo NL k ++ [(k : Int) + 1] := by rw [pointsTo, if_pos (by omega)]
  unfold cnt pointsL
  rw [if_neg h5, if_neg h5, if_neg h5]
  refine ⟨by rw [e]; simp, ?_⟩
  obtain ⟨t, ht⟩ := pointsTo_prefix NL (j := k + 1) NL.length (by omega)
  rw [← ht, e]
  simp
end Go.Proofs.YtgakaomcdpgnkaaDoor
