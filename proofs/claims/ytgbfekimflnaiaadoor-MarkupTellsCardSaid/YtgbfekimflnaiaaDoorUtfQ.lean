/- Plain laws of the reference's way to read a sign: byte by byte. -/
import Derived.Test.YtgbfekimflnaiaaDoorUtfP
namespace Go.Proofs.YtgbfekimflnaiaaDoor
open Go.Lib

def refn (b : Int) : Nat := if 240 ≤ b then 4 else if 224 ≤ b then 3 else if 192 ≤ b then 2 else 1
def refv0 (b : Int) : Int := if 240 ≤ b then b - 240 else if 224 ≤ b then b - 224 else if 192 ≤ b then b - 192 else b
/-- what is read off k + 1 bytes -/
def refv (l : List UInt8) : Nat → Int
  | 0 => refv0 (l.getD 0 0).toNat
  | k + 1 => refv l k * 64 + ((l.getD (k + 1) 0).toNat : Int) % 64

theorem refv_bd (l : List UInt8) : ∀ k : Nat, k ≤ 3 → 0 ≤ refv l k ∧ refv l k < 256 * 64 ^ k := by
  have b0 : (l.getD 0 0).toNat < 256 := UInt8.toNat_lt _
  have h0 : 0 ≤ refv l 0 ∧ refv l 0 < 256 := by
    unfold refv refv0
    split
    · omega
    · split
      · omega
      · split <;> omega
  intro k hk
  have h1 : 0 ≤ refv l 1 ∧ refv l 1 < 256 * 64 := by
    have : refv l 1 = refv l 0 * 64 + ((l.getD 1 0).toNat : Int) % 64 := rfl
    omega
  have h2 : 0 ≤ refv l 2 ∧ refv l 2 < 256 * 64 * 64 := by
    have : refv l 2 = refv l 1 * 64 + ((l.getD 2 0).toNat : Int) % 64 := rfl
    omega
  have h3 : 0 ≤ refv l 3 ∧ refv l 3 < 256 * 64 * 64 * 64 := by
    have : refv l 3 = refv l 2 * 64 + ((l.getD 3 0).toNat : Int) % 64 := rfl
    omega
  rcases (by omega : k = 0 ∨ k = 1 ∨ k = 2 ∨ k = 3) with rfl | rfl | rfl | rfl
  · simpa using h0
  · simpa using h1
  · simpa [Int.mul_assoc] using h2
  · simpa [Int.mul_assoc] using h3

/-- of a sign's bytes the reference reads the sign -/
theorem ref_enc {v : Int} (h : okv v) (t : List UInt8) :
    refn ((encodeRune v ++ t).getD 0 0).toNat = (encodeRune v).length ∧ refv (encodeRune v ++ t) ((encodeRune v).length - 1) = v := by
  have h' := h
  obtain ⟨h1, h2, h3⟩ := h'
  rcases encZ_cases h with ⟨c, e⟩ | ⟨c1, c2, e⟩ | ⟨c1, c2, e⟩ | ⟨c, e⟩
  · simp only [encodeRune, e, List.map_cons, List.map_nil, List.cons_append, List.nil_append, List.length_cons, List.length_nil, refv, List.getD_cons_zero]
    rw [b8 (by omega) (by omega)]
    constructor
    · unfold refn; rw [if_neg (by omega), if_neg (by omega), if_neg (by omega)]
    · show refv0 (((v.toNat.toUInt8 :: t).getD 0 0).toNat : Nat) = v
      rw [List.getD_cons_zero, b8 (by omega) (by omega)]
      unfold refv0; rw [if_neg (by omega), if_neg (by omega), if_neg (by omega)]; omega
  · simp only [encodeRune, e, List.map_cons, List.map_nil, List.cons_append, List.nil_append, List.length_cons, List.length_nil, refv, List.getD_cons_zero, List.getD_cons_succ]
    rw [b8 (by omega) (by omega), b8 (by omega) (by omega)]
    constructor
    · unfold refn; rw [if_neg (by omega), if_neg (by omega), if_pos (by omega)]
    · unfold refv0; rw [if_neg (by omega), if_neg (by omega), if_pos (by omega)]; omega
  · simp only [encodeRune, e, List.map_cons, List.map_nil, List.cons_append, List.nil_append, List.length_cons, List.length_nil, refv, List.getD_cons_zero, List.getD_cons_succ]
    rw [b8 (by omega) (by omega), b8 (by omega) (by omega), b8 (by omega) (by omega)]
    constructor
    · unfold refn; rw [if_neg (by omega), if_pos (by omega)]
    · unfold refv0; rw [if_neg (by omega), if_pos (by omega)]; omega
  · simp only [encodeRune, e, List.map_cons, List.map_nil, List.cons_append, List.nil_append, List.length_cons, List.length_nil, refv, List.getD_cons_zero, List.getD_cons_succ]
    rw [b8 (by omega) (by omega), b8 (by omega) (by omega), b8 (by omega) (by omega), b8 (by omega) (by omega)]
    constructor
    · unfold refn; rw [if_pos (by omega)]
    · unfold refv0; rw [if_pos (by omega)]; omega

/-- the signs of a text; none, if it is not valid -/
noncomputable def sgn (l : List UInt8) : List Int := open Classical in if h : ∃ xs : List Int, (∀ x ∈ xs, okv x) ∧ l = txt xs then Classical.choose h else []
theorem sgn_of {l : List UInt8} {xs : List Int} (hx : ∀ x ∈ xs, okv x) (hl : l = txt xs) : sgn l = xs := by
  have h : ∃ xs : List Int, (∀ x ∈ xs, okv x) ∧ l = txt xs := ⟨xs, hx, hl⟩
  unfold sgn
  rw [dif_pos h]
  have h2 := Classical.choose_spec h
  exact txt_inj h2.1 hx (h2.2.symm.trans hl)
theorem sgn_no {l : List UInt8} (h : validD l = false) : sgn l = [] := by
  unfold sgn
  rw [dif_neg]
  intro h2
  have := (valid_iff l).2 h2
  rw [h] at this; cases this
theorem sgn_yes {l : List UInt8} (h : validD l = true) : (∀ x ∈ sgn l, okv x) ∧ l = txt (sgn l) := by
  obtain ⟨xs, hx, hl⟩ := (valid_iff l).1 h
  rw [sgn_of hx hl]; exact ⟨hx, hl⟩
end Go.Proofs.YtgbfekimflnaiaaDoor
