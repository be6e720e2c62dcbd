/- Plain laws of a word's numbers: patterns, and where they lie. -/
import Derived.Test.YtjkfefjfmocekaaDoorLib
namespace Go.Proofs.YtjkfefjfmocekaaDoor
open Go.RowKit

structure Pat where
  letters : List UInt8
  nums : List Int
  deriving DecidableEq

/-- a pattern's text, read byte by byte: a digit stands at the place behind the letters so far -/
def patStep (p : Pat) (c : UInt8) : Pat :=
  if 48 ≤ c.toNat ∧ c.toNat ≤ 57 then ⟨p.letters, p.nums.set p.letters.length (c.toNat - 48 : Int)⟩ else ⟨p.letters ++ [c], p.nums ++ [0]⟩
def patOf (s : List UInt8) : Pat := s.foldl patStep ⟨[], [0]⟩
theorem patOf_snoc (s : List UInt8) (c : UInt8) : patOf (s ++ [c]) = patStep (patOf s) c := by simp [patOf]
theorem patOf_len (s : List UInt8) : (patOf s).nums.length = (patOf s).letters.length + 1 ∧ (patOf s).letters.length ≤ s.length := by
  have key : ∀ (l : List UInt8) (p : Pat) (n : Nat), p.nums.length = p.letters.length + 1 → p.letters.length ≤ n →
      (l.foldl patStep p).nums.length = (l.foldl patStep p).letters.length + 1 ∧ (l.foldl patStep p).letters.length ≤ n + l.length := by
    intro l
    induction l with
    | nil => intro p n h k; exact ⟨h, k⟩
    | cons c l ih =>
      intro p n h k
      have := ih (patStep p c) (n + 1) (by unfold patStep; split <;> simp [h]) (by unfold patStep; split <;> simp <;> omega)
      rw [List.length_cons, show n + (l.length + 1) = n + 1 + l.length by omega]
      exact this
  have := key s ⟨[], [0]⟩ 0 rfl (Nat.le_refl _)
  rw [Nat.zero_add] at this
  exact this

/-- the eighteen -/
def patTexts : List (List UInt8) := [[46, 114, 101, 49], [46, 117, 110, 49], [49, 116, 105, 111, 110], [50, 115, 115, 50], [49, 110, 97], [49, 110, 101], [110, 49, 116], [116, 50, 116], [49, 109, 97], [108, 49, 108], [50, 105, 110, 103], [49, 100, 101], [101, 114, 49], [49, 108, 121, 46], [49, 99, 97], [49, 99, 111], [111, 49, 114], [49, 112, 97]]
def pats : List Pat := patTexts.map patOf

/-- a pattern's numbers laid in from a place on -/
def addN (at_ : List Int) (from_ : Nat) (nums : List Int) : Nat → List Int
  | 0 => at_
  | k + 1 => (addN at_ from_ nums k).set (from_ + k) (max ((addN at_ from_ nums k).getD (from_ + k) 0) (nums.getD k 0))
theorem addN_len (at_ : List Int) (from_ : Nat) (nums : List Int) : ∀ k, (addN at_ from_ nums k).length = at_.length := by
  intro k; induction k with
  | zero => rfl
  | succ k ih => simp [addN, ih]
def hits (w : List UInt8) (p : Pat) (f : Nat) : Bool := p.letters.isPrefixOf (w.drop f)
def stepF (w : List UInt8) (p : Pat) (at_ : List Int) (f : Nat) : List Int := if hits w p f then addN at_ f p.nums p.nums.length else at_
/-- one pattern at the first f places -/
def onePat (w : List UInt8) (p : Pat) (at_ : List Int) : Nat → List Int
  | 0 => at_
  | f + 1 => stepF w p (onePat w p at_ f) f
theorem stepF_len (w : List UInt8) (p : Pat) (at_ : List Int) (f : Nat) : (stepF w p at_ f).length = at_.length := by unfold stepF; split <;> simp [addN_len]
theorem onePat_len (w : List UInt8) (p : Pat) (at_ : List Int) : ∀ f, (onePat w p at_ f).length = at_.length := by
  intro f; induction f with
  | zero => rfl
  | succ f ih => rw [onePat, stepF_len, ih]
def allPats (w : List UInt8) (ps : List Pat) : List Int := ps.foldl (fun a p => onePat w p a w.length) (List.replicate (w.length + 1) 0)
theorem allPats_snoc (w : List UInt8) (ps : List Pat) (p : Pat) : allPats w (ps ++ [p]) = onePat w p (allPats w ps) w.length := by simp [allPats]
theorem allPats_len (w : List UInt8) (ps : List Pat) : (allPats w ps).length = w.length + 1 := by
  unfold allPats
  have key : ∀ (ps : List Pat) (a : List Int), (ps.foldl (fun a p => onePat w p a w.length) a).length = a.length := by
    intro ps; induction ps with
    | nil => intro a; rfl
    | cons p ps ih => intro a; rw [List.foldl_cons, ih, onePat_len]
  rw [key]; simp

def lowB (c : UInt8) : UInt8 := if 65 ≤ c.toNat ∧ c.toNat ≤ 90 then c + 32 else c
def isLet (c : UInt8) : Bool := decide (97 ≤ (lowB c).toNat ∧ (lowB c).toNat ≤ 122)
def dotted (lw : List UInt8) : List UInt8 := 46 :: (lw ++ [46])
def numsOf (lw : List UInt8) : List Int := ((allPats (dotted lw) pats).drop 2).take (lw.length - 1)
theorem numsOf_len {lw : List UInt8} (h : 1 ≤ lw.length) : (numsOf lw).length = lw.length - 1 := by
  unfold numsOf; simp [allPats_len, dotted]; omega
/-- a word in small letters, if it may have numbers -/
def smallL (s : List UInt8) : Option (List UInt8) := if s.all isLet = true ∧ 2 ≤ s.length ∧ s.length ≤ 60 then some (s.map lowB) else none
def numbersL (s : List UInt8) : List Int := match smallL s with | none => [] | some lw => numsOf lw

/-- behind how many letters: the first k numbers -/
def pointsTo (nums : List Int) : Nat → List Int
  | 0 => []
  | k + 1 => pointsTo nums k ++ (if nums.getD k 0 % 2 = 1 ∧ 2 ≤ k + 1 ∧ k + 1 + 3 ≤ nums.length + 1 then [((k : Int) + 1)] else [])
def pointsL (nums : List Int) : List Int := if nums.length + 1 < 5 then [] else pointsTo nums nums.length

/-- all that is laid in is from 0 to 9 -/
def dig (l : List Int) : Prop := ∀ x ∈ l, 0 ≤ x ∧ x ≤ 9
theorem dig_set {l : List Int} (h : dig l) {v : Int} (hv : 0 ≤ v ∧ v ≤ 9) (i : Nat) : dig (l.set i v) := by
  intro x hx
  rcases List.mem_or_eq_of_mem_set hx with h1 | h1
  · exact h x h1
  · rw [h1]; exact hv
theorem dig_getD {l : List Int} (h : dig l) (i : Nat) : 0 ≤ l.getD i 0 ∧ l.getD i 0 ≤ 9 := by
  rw [List.getD_eq_getElem?_getD]
  cases hi : l[i]? with
  | none => simp
  | some x => exact h x (List.mem_of_getElem? hi)
theorem dig_addN {l : List Int} (h : dig l) {nums : List Int} (hn : dig nums) (f : Nat) : ∀ k, dig (addN l f nums k) := by
  intro k; induction k with
  | zero => exact h
  | succ k ih =>
    refine dig_set ih ?_ _
    have h1 := dig_getD ih (f + k)
    have h2 := dig_getD hn k
    omega
theorem dig_onePat {w : List UInt8} {p : Pat} (hp : dig p.nums) {l : List Int} (h : dig l) : ∀ f, dig (onePat w p l f) := by
  intro f; induction f with
  | zero => exact h
  | succ f ih =>
    unfold onePat stepF
    split
    · exact dig_addN ih hp _ _
    · exact ih
theorem pats_dig : ∀ p ∈ pats, dig p.nums := by
  have : (pats.all fun p => p.nums.all fun x => decide (0 ≤ x ∧ x ≤ 9)) = true := by decide
  intro p hp x hx
  have h1 := List.all_eq_true.1 this p hp
  have h2 := List.all_eq_true.1 h1 x hx
  simpa using h2
theorem dig_allPats (w : List UInt8) {ps : List Pat} (h : ∀ p ∈ ps, dig p.nums) : dig (allPats w ps) := by
  unfold allPats
  have key : ∀ (ps : List Pat) (a : List Int), (∀ p ∈ ps, dig p.nums) → dig a → dig (ps.foldl (fun a p => onePat w p a w.length) a) := by
    intro ps; induction ps with
    | nil => intro a _ h; exact h
    | cons p ps ih => intro a hp ha; exact ih _ (fun q hq => hp q (by simp [hq])) (dig_onePat (hp p (by simp)) ha _)
  exact key ps _ h (fun x hx => by rw [List.eq_of_mem_replicate hx]; omega)
theorem dig_numsOf (lw : List UInt8) : dig (numsOf lw) := fun x hx => dig_allPats _ pats_dig x (List.mem_of_mem_drop (List.mem_of_mem_take hx))
end Go.Proofs.YtjkfefjfmocekaaDoor
