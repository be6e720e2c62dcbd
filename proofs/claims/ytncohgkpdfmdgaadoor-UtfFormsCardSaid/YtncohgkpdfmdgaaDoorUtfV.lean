/- Plain laws of one sign's text. -/
import Derived.Test.YtncohgkpdfmdgaaDoorUtfS
namespace Go.Proofs.YtncohgkpdfmdgaaDoor
open Go.RowKit Go.Shelf Go.Lib

theorem toNat8 {n : Int} (h0 : 0 ≤ n) (h1 : n ≤ 255) : ((n.toNat.toUInt8).toNat : Int) = n := by have := b8 h0 h1; omega

/-- the bytes behind the first one -/
theorem enc_cont {v : Int} (h : okv v) {i : Nat} (h1 : 1 ≤ i) (h2 : i < (encodeRune v).length) : ∃ c : UInt8, (encodeRune v)[i]? = some c ∧ 128 ≤ c.toNat ∧ c.toNat < 192 := by
  have h' := h
  obtain ⟨a1, a2, a3⟩ := h'
  have key : ∀ n : Int, 0 ≤ n → n < 64 → 128 ≤ ((128 + n).toNat.toUInt8).toNat ∧ ((128 + n).toNat.toUInt8).toNat < 192 := by
    intro n p q
    have := toNat8 (n := 128 + n) (by omega) (by omega)
    omega
  have m : ∀ x : Int, 0 ≤ x % 64 ∧ x % 64 < 64 := fun x => by omega
  rcases encZ_cases h with ⟨_, e⟩ | ⟨_, _, e⟩ | ⟨_, _, e⟩ | ⟨_, e⟩
  · simp [encodeRune, e] at h2; try omega
  · have h3 : (encodeRune v).length = 2 := by simp [encodeRune, e]
    obtain rfl : i = 1 := by omega
    clear h2
    exact ⟨_, by simp [encodeRune, e] <;> rfl, key _ (m v).1 (m v).2⟩
  · simp [encodeRune, e] at h2
    rcases (by omega : i = 1 ∨ i = 2) with rfl | rfl
    · exact ⟨_, by simp [encodeRune, e] <;> rfl, key _ (m _).1 (m _).2⟩
    · exact ⟨_, by simp [encodeRune, e] <;> rfl, key _ (m _).1 (m _).2⟩
  · simp [encodeRune, e] at h2
    rcases (by omega : i = 1 ∨ i = 2 ∨ i = 3) with rfl | rfl | rfl
    · exact ⟨_, by simp [encodeRune, e] <;> rfl, key _ (m _).1 (m _).2⟩
    · exact ⟨_, by simp [encodeRune, e] <;> rfl, key _ (m _).1 (m _).2⟩
    · exact ⟨_, by simp [encodeRune, e] <;> rfl, key _ (m _).1 (m _).2⟩

/-- the first byte, and how many there are -/
theorem enc_head {v : Int} (h : okv v) : ∃ (c : UInt8) (r : List UInt8), encodeRune v = c :: r ∧ (v < 128 ∧ c.toNat < 128 ∧ r.length = 0 ∨ 128 ≤ v ∧ v < 2048 ∧ 192 ≤ c.toNat ∧ r.length = 1 ∨ 2048 ≤ v ∧ v < 65536 ∧ 192 ≤ c.toNat ∧ r.length = 2 ∨ 65536 ≤ v ∧ 192 ≤ c.toNat ∧ r.length = 3) := by
  have h' := h
  obtain ⟨a1, a2, a3⟩ := h'
  rcases encZ_cases h with ⟨b, e⟩ | ⟨b, c, e⟩ | ⟨b, c, e⟩ | ⟨b, e⟩
  · exact ⟨_, _, by simp only [encodeRune, e, List.map_cons]; rfl, .inl ⟨by omega, by have := toNat8 (n := v) (by omega) (by omega); omega, rfl⟩⟩
  · exact ⟨_, _, by simp only [encodeRune, e, List.map_cons]; rfl, .inr (.inl ⟨by omega, by omega, by have := toNat8 (n := 192 + v / 64) (by omega) (by omega); omega, rfl⟩)⟩
  · exact ⟨_, _, by simp only [encodeRune, e, List.map_cons]; rfl, .inr (.inr (.inl ⟨by omega, by omega, by have := toNat8 (n := 224 + v / 4096) (by omega) (by omega); omega, rfl⟩))⟩
  · exact ⟨_, _, by simp only [encodeRune, e, List.map_cons]; rfl, .inr (.inr (.inr ⟨by omega, by have := toNat8 (n := 240 + v / 262144) (by omega) (by omega); omega, rfl⟩))⟩

theorem txt_one (v : Int) : txt [v] = encodeRune v := by simp [txt]

theorem cut_no {v : Int} (h : okv v) {i : Nat} (h1 : 1 ≤ i) (h2 : i < (encodeRune v).length) : validD ((encodeRune v).take i) = false := by
  cases hv : validD ((encodeRune v).take i) with
  | false => rfl
  | true =>
    obtain ⟨xs, hx, he⟩ := (valid_iff _).1 hv
    obtain ⟨ys, e1, e2⟩ := txt_split (pre := xs) (xs := [v]) (rest := (encodeRune v).drop i) hx (fun x hx => by rw [List.mem_singleton.1 hx]; exact h) (by rw [← he, List.take_append_drop, txt_one])
    have l1 := congrArg List.length he
    have l2 := congrArg List.length e2
    rw [List.length_take] at l1
    rw [List.length_drop] at l2
    cases xs with
    | nil => rw [show txt [] = [] from rfl, List.length_nil] at l1; omega
    | cons x xs =>
      have e3 := (List.cons.inj e1).2
      have e4 : ys = [] := by
        cases ys with
        | nil => rfl
        | cons y ys => have := congrArg List.length e3; simp at this
      rw [e4, show txt [] = [] from rfl, List.length_nil] at l2
      omega

theorem rest_no {v : Int} (h : okv v) {i : Nat} (h1 : 1 ≤ i) (h2 : i < (encodeRune v).length) : validD ((encodeRune v).drop i) = false := by
  cases hv : validD ((encodeRune v).drop i) with
  | false => rfl
  | true =>
    obtain ⟨xs, hx, he⟩ := (valid_iff _).1 hv
    obtain ⟨c, hc, c1, c2⟩ := enc_cont h h1 h2
    have hd : ((encodeRune v).drop i)[0]? = some c := by rw [List.getElem?_drop]; simpa using hc
    match xs, hx, he with
    | [], _, he => rw [he] at hd; simp [txt] at hd
    | x :: xs, hx, he =>
      obtain ⟨c', r, e, hh⟩ := enc_head (hx x (by simp))
      rw [he, txt_cons, e] at hd
      have : c' = c := by simpa using hd
      subst this
      omega
end Go.Proofs.YtncohgkpdfmdgaaDoor
