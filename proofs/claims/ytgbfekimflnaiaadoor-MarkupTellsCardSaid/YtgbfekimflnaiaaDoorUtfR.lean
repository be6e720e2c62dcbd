/- Validity behind a prefix; when the reference stops. -/
import Derived.Test.YtgbfekimflnaiaaDoorUtfQ
namespace Go.Proofs.YtgbfekimflnaiaaDoor
open Go.Lib

theorem txt_split : ∀ {pre xs : List Int} {rest : List UInt8}, (∀ x ∈ pre, okv x) → (∀ x ∈ xs, okv x) → txt pre ++ rest = txt xs → ∃ ys, xs = pre ++ ys ∧ rest = txt ys
  | [], xs, rest, _, _, h => ⟨xs, rfl, h⟩
  | p :: pre, [], rest, hp, _, h => by
    have := (enc_len (hp p (by simp))).1
    have e := congrArg List.length h
    rw [txt_cons, List.length_append, List.length_append] at e
    have h3 : (txt []).length = 0 := rfl
    omega
  | p :: pre, x :: xs, rest, hp, hx, h => by
    rw [txt_cons, txt_cons, List.append_assoc] at h
    have d1 := dec_enc (hp p (by simp)) (txt pre ++ rest)
    have d2 := dec_enc (hx x (by simp)) (txt xs)
    rw [h, d2] at d1
    have e1 := congrArg Prod.fst d1
    dsimp only at e1
    have q1 := (hp p (by simp)).1
    have q2 := (hx x (by simp)).1
    have e : x = p := by omega
    subst e
    obtain ⟨ys, e2, e3⟩ := txt_split (fun y hy => hp y (by simp [hy])) (fun y hy => hx y (by simp [hy])) (List.append_cancel_left h)
    exact ⟨ys, by rw [e2]; rfl, e3⟩

theorem valid_app {pre : List Int} (hp : ∀ x ∈ pre, okv x) {rest : List UInt8} (h : validD rest = false) : validD (txt pre ++ rest) = false := by
  cases hv : validD (txt pre ++ rest) with
  | false => rfl
  | true =>
    obtain ⟨xs, hx, he⟩ := (valid_iff _).1 hv
    obtain ⟨ys, rfl, e2⟩ := txt_split hp hx he
    have := (valid_iff rest).2 ⟨ys, fun y hy => hx y (by simp [hy]), e2⟩
    rw [this] at h; cases h

/-- what the reference sees at the head of what is left -/
def refGood (l : List UInt8) : Prop := refn (l.getD 0 0).toNat ≤ l.length ∧ okv (refv l (refn (l.getD 0 0).toNat - 1)) ∧ encodeRune (refv l (refn (l.getD 0 0).toNat - 1)) = l.take (refn (l.getD 0 0).toNat)

theorem ref_bad {l : List UInt8} (hl : l ≠ []) (h : ¬ refGood l) : validD l = false := by
  cases hv : validD l with
  | false => rfl
  | true =>
    obtain ⟨xs, hx, he⟩ := (valid_iff _).1 hv
    match xs, hx, he with
    | [], _, he => exact absurd he hl
    | x :: xs, hx, he =>
      rw [txt_cons] at he
      obtain ⟨h1, h2⟩ := ref_enc (hx x (by simp)) (txt xs)
      rw [← he] at h1 h2
      refine absurd ⟨?_, ?_, ?_⟩ h
      · rw [h1, he]; simp
      · rw [h1, h2]; exact hx x (by simp)
      · rw [h1, h2, he]; simp

theorem refn_cases (b : Int) : (refn b = 4 ∧ 240 ≤ b ∧ refv0 b = b - 240) ∨ (refn b = 3 ∧ ¬ 240 ≤ b ∧ 224 ≤ b ∧ refv0 b = b - 224) ∨
    (refn b = 2 ∧ ¬ 240 ≤ b ∧ ¬ 224 ≤ b ∧ 192 ≤ b ∧ refv0 b = b - 192) ∨ (refn b = 1 ∧ ¬ 240 ≤ b ∧ ¬ 224 ≤ b ∧ ¬ 192 ≤ b ∧ refv0 b = b) := by
  unfold refn refv0
  by_cases h1 : 240 ≤ b
  · exact .inl ⟨by rw [if_pos h1], h1, by rw [if_pos h1]⟩
  · by_cases h2 : 224 ≤ b
    · exact .inr (.inl ⟨by rw [if_neg h1, if_pos h2], h1, h2, by rw [if_neg h1, if_pos h2]⟩)
    · by_cases h3 : 192 ≤ b
      · exact .inr (.inr (.inl ⟨by rw [if_neg h1, if_neg h2, if_pos h3], h1, h2, h3, by rw [if_neg h1, if_neg h2, if_pos h3]⟩))
      · exact .inr (.inr (.inr ⟨by rw [if_neg h1, if_neg h2, if_neg h3], h1, h2, h3, by rw [if_neg h1, if_neg h2, if_neg h3]⟩))
end Go.Proofs.YtgbfekimflnaiaaDoor
