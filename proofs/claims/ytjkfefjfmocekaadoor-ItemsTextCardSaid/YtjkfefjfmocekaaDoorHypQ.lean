/- Words' numbers, tried out. -/
import Derived.Test.YtjkfefjfmocekaaDoorHypP
namespace Go.Proofs.YtjkfefjfmocekaaDoor
open Go.RowKit

/-- the fifteen words of HyphenPatterns, and their numbers -/
def trialW : List (List UInt8) := [[120, 116, 105, 111, 110, 120], [120, 110, 97, 120], [120, 110, 116, 120], [120, 116, 116, 120], [120, 109, 97, 120], [120, 108, 108, 120], [120, 105, 110, 103, 120], [120, 100, 101, 120], [120, 101, 114, 120], [120, 99, 97, 120], [120, 99, 111, 120], [120, 111, 114, 120], [120, 112, 97, 120], [120, 115, 115, 120], [120, 110, 101, 120]]
def trialN : List (List Int) := [[1, 0, 0, 0, 0], [1, 0, 0], [0, 1, 0], [0, 2, 0], [1, 0, 0], [0, 1, 0], [2, 0, 0, 0], [1, 0, 0], [0, 0, 1], [1, 0, 0], [1, 0, 0], [0, 1, 0], [1, 0, 0], [2, 0, 2], [1, 0, 0]]
theorem trial_eq : trialW.map numbersL = trialN := by decide +kernel
theorem none_eq : ∀ k, k < 40 → numbersL (List.replicate (k + 2) 120) = List.replicate (k + 1) 0 := by decide +kernel
theorem none_points : ∀ k, k < 40 → pointsL (List.replicate (k + 1) 0) = [] := by decide +kernel
theorem wk1 : pointsL (numbersL [110, 97, 116, 105, 111, 110]) = [2] := by decide +kernel
theorem wk2 : pointsL (numbersL [117, 110, 114, 101, 97, 108]) = [2] := by decide +kernel
theorem wk3 : pointsL (numbersL [99, 111, 45, 111, 112]) = [] := by decide +kernel
theorem wk4 : pointsL (numbersL [114, 101, 97, 108]) = [] := by decide +kernel
theorem wk5 : numbersL [97, 108, 108] = [0, 1] := by decide +kernel
theorem wk6 : numbersL [97] = [] := by decide +kernel
end Go.Proofs.YtjkfefjfmocekaaDoor
