/- The plain law of SettingSpreads: by trial of all cases. -/
import Derived.Test.YtgakaomcdpgnkaaDoorSetF
namespace Go.Proofs.YtgakaomcdpgnkaaDoor
open Go.RowKit

def sp : Nat → List It
  | 0 => []
  | k + 1 => sp k ++ (if 0 < k then [glueI] else []) ++ [xI]
theorem sp_len : ∀ k, 0 < k → (sp k).length + 1 = 2 * k := by
  intro k
  induction k with
  | zero => intro h; omega
  | succ k ih =>
    intro _
    unfold sp
    by_cases h : 0 < k
    · have := ih h
      rw [if_pos h]; simp; omega
    · obtain rfl : k = 0 := by omega
      rfl
def xs (p : List (Int × ByteArray)) (i : Nat) : Int := (p.getD i (0, emp)).1
def gap (p : List (Int × ByteArray)) (i : Nat) : Int := xs p i - xs p (i - 1) - 6
/-- the least gap, and the greatest one, ahead of place k -/
def leastF (p : List (Int × ByteArray)) : Nat → Int
  | 0 => 1000
  | k + 1 => if k = 0 then 1000 else min (leastF p k) (gap p k)
def mostF (p : List (Int × ByteArray)) : Nat → Int
  | 0 => -1
  | k + 1 => if k = 0 then -1 else max (mostF p k) (gap p k)
def fine (p : List (Int × ByteArray)) : Bool := p.all fun x => decide (0 ≤ x.1) && decide (x.1 ≤ 1000) && x.2.data.toList == [120]
def chk (n d : Nat) : Bool :=
  let w : Int := 6 * n + 4 * (n - 1)
  let p := setL (sp n) (-1) (sp n).length (w + d) false
  let q := setL (sp n) (-1) (sp n).length (w + d) true
  p.length == n && fine p && q.length == n && fine q && decide (4 ≤ leastF p n) && decide (mostF p n - leastF p n ≤ 1) && xs p (n - 1) + 6 == w + d && xs q (n - 1) + 6 == w && xs p 0 == 0
theorem chk_all : ∀ n, n < 9 → ∀ d, d < 100 → chk (n + 2) d = true := by decide +kernel
end Go.Proofs.YtgakaomcdpgnkaaDoor
