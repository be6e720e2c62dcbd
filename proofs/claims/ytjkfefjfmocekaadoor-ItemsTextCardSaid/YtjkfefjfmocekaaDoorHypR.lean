/- Plain laws of a word's numbers: great and small letters are alike; where a word may be broken. -/
import Derived.Test.YtjkfefjfmocekaaDoorHypP
import Derived.Test.YtjkfefjfmocekaaDoorJ0
import Derived.Test.YtjkfefjfmocekaaDoorUtfQ
namespace Go.Proofs.YtjkfefjfmocekaaDoor
open Go.RowKit Go.Lib

theorem isLet_low (c : UInt8) : isLet c = decide (97 ≤ (lowB c).toNat ∧ (lowB c).toNat ≤ 122) := rfl
/-- a word's numbers hang on its small letters alone -/
theorem numbers_low {s t : List UInt8} (h : s.map lowB = t.map lowB) : numbersL s = numbersL t := by
  have hl : s.length = t.length := by have := congrArg List.length h; simpa using this
  have ha : s.all isLet = t.all isLet := by
    have key : ∀ u : List UInt8, u.all isLet = (u.map lowB).all (fun c => decide (97 ≤ c.toNat ∧ c.toNat ≤ 122)) := fun u => by
      rw [List.all_map]; rfl
    rw [key s, key t, h]
  unfold numbersL smallL
  rw [ha, hl, h]

/-- a sign that is turned -/
def turnS (g : Bool) (x : Int) : Int := if g = true ∧ 97 ≤ lower x ∧ lower x ≤ 122 then lower x - 32 else x
def turnL : List Bool → List Int → List Int
  | _, [] => []
  | [], l => l
  | g :: gs, x :: l => turnS g x :: turnL gs l
theorem enc_ascii : ∀ n : Nat, n < 128 → encodeRune (n : Int) = [n.toUInt8] := by decide +kernel
theorem low_pair : ∀ n : Nat, n < 26 → [((65 + n).toUInt8)].map lowB = [((97 + n).toUInt8)].map lowB := by decide +kernel
theorem turn_enc (g : Bool) (x : Int) : (encodeRune (turnS g x)).map lowB = (encodeRune x).map lowB := by
  unfold turnS
  split
  · rename_i h
    obtain ⟨-, h1, h2⟩ := h
    unfold lower at h1 h2 ⊢
    split at h1
    · rename_i h3
      rw [if_pos h3]
      congr 2; omega
    · rename_i h3
      rw [if_neg h3] at h2 ⊢
      obtain ⟨n, hn, rfl⟩ : ∃ n : Nat, n < 26 ∧ x = 97 + n := ⟨(x - 97).toNat, by omega, by omega⟩
      have e1 : (97 + (n : Int) - 32) = ((65 + n : Nat) : Int) := by omega
      have e2 : (97 + (n : Int)) = ((97 + n : Nat) : Int) := by omega
      rw [e1, e2, enc_ascii _ (by omega), enc_ascii _ (by omega)]
      exact low_pair n hn
  · rfl
theorem turn_txt : ∀ (gs : List Bool) (l : List Int), (txt (turnL gs l)).map lowB = (txt l).map lowB := by
  intro gs l
  induction l generalizing gs with
  | nil => cases gs <;> rfl
  | cons x l ih =>
    cases gs with
    | nil => rfl
    | cons g gs => rw [turnL, txt_cons, txt_cons, List.map_append, List.map_append, turn_enc, ih]
theorem turn_ok (g : Bool) {x : Int} (h : okv x) : okv (turnS g x) := by
  unfold turnS
  split
  · rename_i h2
    obtain ⟨-, h3, h4⟩ := h2
    unfold okv; omega
  · exact h
theorem turnL_ok : ∀ (gs : List Bool) (l : List Int), (∀ x ∈ l, okv x) → ∀ x ∈ turnL gs l, okv x := by
  intro gs l
  induction l generalizing gs with
  | nil => intro _ x hx; cases gs <;> cases hx
  | cons y l ih =>
    intro h x hx
    cases gs with
    | nil => exact h x hx
    | cons g gs =>
      rw [turnL] at hx
      rcases List.mem_cons.1 hx with rfl | hx
      · exact turn_ok g (h y (by simp))
      · exact ih gs (fun z hz => h z (by simp [hz])) x hx
theorem turnL_len (gs : List Bool) (l : List Int) : (turnL gs l).length = l.length := by
  induction l generalizing gs with
  | nil => cases gs <;> rfl
  | cons x l ih => cases gs with
    | nil => rfl
    | cons g gs => simp [turnL, ih]
theorem let_byte : ∀ n : Nat, n < 256 → isLet n.toUInt8 = true → n < 128 := by decide +kernel
/-- a word that has numbers is valid text -/
theorem numbers_invalid {s : List UInt8} (h : validD s = false) : numbersL s = [] := by
  by_cases ha : s.all isLet = true
  · exfalso
    have hv : validD s = true := by
      refine (valid_iff s).2 ⟨s.map fun c => (c.toNat : Int), fun x hx => ?_, ?_⟩
      · obtain ⟨c, hc, rfl⟩ := List.mem_map.1 hx
        have h1 := List.all_eq_true.1 ha c hc
        have h2 := let_byte c.toNat c.toNat_lt (by simpa using h1)
        unfold okv; omega
      · clear h
        induction s with
        | nil => rfl
        | cons c s ih =>
          have h1 := List.all_eq_true.1 ha c (by simp)
          have h2 := let_byte c.toNat c.toNat_lt (by simpa using h1)
          rw [List.map_cons, txt_cons, enc_ascii _ h2, ← ih (List.all_eq_true.2 fun d hd => List.all_eq_true.1 ha d (by simp [hd]))]
          simp
    rw [h] at hv; cases hv
  · unfold numbersL smallL
    rw [if_neg (by rintro ⟨h1, -⟩; exact ha h1)]

theorem pointsTo_len (nums : List Int) : ∀ k, (pointsTo nums k).length ≤ k := by
  intro k; induction k with
  | zero => exact Nat.le_refl _
  | succ k ih => unfold pointsTo; rw [List.length_append]; split <;> simp <;> omega
theorem pointsTo_prefix (nums : List Int) {j : Nat} : ∀ k, j ≤ k → pointsTo nums j <+: pointsTo nums k := by
  intro k
  induction k with
  | zero =>
    intro h
    obtain rfl : j = 0 := by omega
    exact List.prefix_refl _
  | succ k ih =>
    intro h
    by_cases he : j = k + 1
    · subst he; exact List.prefix_refl _
    · exact (ih (by omega)).trans (by rw [pointsTo]; exact List.prefix_append _ _)
end Go.Proofs.YtjkfefjfmocekaaDoor
