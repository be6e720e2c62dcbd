/- Plain laws of UTF-8: a text is valid if and only if it is the signs' bytes, one sign behind the other; it is that of one list of signs alone. -/
import Derived.Test.YtkmnmigpnbehaaaDoorLib
import Derived.Lib.MapLaws
import Derived.Lib.ValidU
import Derived.Lib.DecodeN
namespace Go.Proofs.YtkmnmigpnbehaaaDoor
open Go.Lib

def okv (v : Int) : Prop := 0 ≤ v ∧ v ≤ 1114111 ∧ ¬ (55296 ≤ v ∧ v ≤ 57343)
instance (v : Int) : Decidable (okv v) := by unfold okv; infer_instance
/-- the text of signs -/
def txt (xs : List Int) : List UInt8 := xs.flatMap encodeRune

theorem encZ_cases {v : Int} (h : okv v) :
    (v ≤ 127 ∧ encodeRuneZ v = [v]) ∨ (128 ≤ v ∧ v ≤ 2047 ∧ encodeRuneZ v = [192 + v / 64, 128 + v % 64]) ∨
    (2048 ≤ v ∧ v ≤ 65535 ∧ encodeRuneZ v = [224 + v / 4096, 128 + v / 64 % 64, 128 + v % 64]) ∨
    (65536 ≤ v ∧ encodeRuneZ v = [240 + v / 262144, 128 + v / 4096 % 64, 128 + v / 64 % 64, 128 + v % 64]) := by
  obtain ⟨h1, h2, h3⟩ := h
  unfold encodeRuneZ
  by_cases c1 : v ≤ 127
  · left; exact ⟨c1, by rw [if_pos ⟨h1, c1⟩]⟩
  · right
    rw [if_neg (by omega)]
    by_cases c2 : v ≤ 2047
    · left; exact ⟨by omega, c2, by rw [if_pos (by omega)]⟩
    · right
      rw [if_neg (by omega)]
      by_cases c3 : v ≤ 65535
      · left; exact ⟨by omega, c3, by rw [if_pos (by omega)]⟩
      · right; exact ⟨by omega, by rw [if_neg (by omega), if_pos (by omega)]⟩

theorem dL (l : List UInt8) : decodeL l = decodeN l.length (l.getD 0 0).toNat (l.getD 1 0).toNat (l.getD 2 0).toNat (l.getD 3 0).toNat := by
  unfold decodeL
  rw [decode_at]
  have g : ∀ k, (⟨l.toArray⟩ : ByteArray).get! k = l.getD k 0 := fun k => by
    show l.toArray[k]! = _
    simp [List.getD]
    cases l[k]? <;> rfl
  simp only [g]
  rfl

theorem b8 {z : Int} (h0 : 0 ≤ z) (h1 : z ≤ 255) : (z.toNat.toUInt8).toNat = z.toNat := by
  rw [Nat.toUInt8, UInt8.toNat_ofNat']; omega

theorem enc_len {v : Int} (h : okv v) : 1 ≤ (encodeRune v).length ∧ (encodeRune v).length ≤ 4 := by
  rcases encZ_cases h with ⟨_, e⟩ | ⟨_, _, e⟩ | ⟨_, _, e⟩ | ⟨_, e⟩ <;> simp [encodeRune, e]

/-- what is decoded at the head of a sign's bytes is the sign -/
theorem dec_enc {v : Int} (h : okv v) (t : List UInt8) : decodeL (encodeRune v ++ t) = (v.toNat, (encodeRune v).length) := by
  rw [dL]
  have h' := h
  obtain ⟨h1, h2, h3⟩ := h'
  rcases encZ_cases h with ⟨c, e⟩ | ⟨c1, c2, e⟩ | ⟨c1, c2, e⟩ | ⟨c, e⟩
  · simp only [encodeRune, e, List.map_cons, List.map_nil, List.cons_append, List.nil_append, List.getD_cons_zero, List.length_cons, List.length_nil]
    rw [b8 (by omega) (by omega)]
    unfold decodeN
    rw [if_pos (by omega)]
  · simp only [encodeRune, e, List.map_cons, List.map_nil, List.cons_append, List.nil_append, List.getD_cons_zero, List.getD_cons_succ, List.length_cons, List.length_nil]
    rw [b8 (by omega) (by omega), b8 (by omega) (by omega)]
    unfold decodeN
    rw [if_neg (by omega), if_pos (by omega), if_pos (by omega)]
    refine Prod.ext ?_ rfl
    show (192 + v / 64).toNat % 32 * 64 + (128 + v % 64).toNat % 64 = v.toNat
    omega
  · simp only [encodeRune, e, List.map_cons, List.map_nil, List.cons_append, List.nil_append, List.getD_cons_zero, List.getD_cons_succ, List.length_cons, List.length_nil]
    rw [b8 (by omega) (by omega), b8 (by omega) (by omega), b8 (by omega) (by omega)]
    have e0 : (224 + v / 4096).toNat % 16 * 4096 + (128 + v / 64 % 64).toNat % 64 * 64 + (128 + v % 64).toNat % 64 = v.toNat := by omega
    unfold decodeN
    rw [if_neg (by omega), if_neg (by omega), if_pos (by omega), if_pos (by omega), e0]
  · simp only [encodeRune, e, List.map_cons, List.map_nil, List.cons_append, List.nil_append, List.getD_cons_zero, List.getD_cons_succ, List.length_cons, List.length_nil]
    rw [b8 (by omega) (by omega), b8 (by omega) (by omega), b8 (by omega) (by omega), b8 (by omega) (by omega)]
    have e0 : (240 + v / 262144).toNat % 8 * 262144 + (128 + v / 4096 % 64).toNat % 64 * 4096 + (128 + v / 64 % 64).toNat % 64 * 64 + (128 + v % 64).toNat % 64 = v.toNat := by omega
    unfold decodeN
    rw [if_neg (by omega), if_neg (by omega), if_neg (by omega), if_pos (by omega), if_pos (by omega), e0]

theorem enc_one {v : Int} (h : okv v) : ¬ (v = 65533 ∧ (encodeRune v).length = 1) := by
  rintro ⟨rfl, h2⟩
  simp [encodeRune, encodeRuneZ] at h2

/-- what decodes well is a sign -/
theorem dec_ok (l : List UInt8) (h : ¬ ((decodeL l).1 = 65533 ∧ (decodeL l).2 = 1)) : okv ((decodeL l).1 : Int) := by
  rw [dL] at h ⊢
  unfold okv
  rcases decodeN_shape l.length (l.getD 0 0).toNat (l.getD 1 0).toNat (l.getD 2 0).toNat (l.getD 3 0).toNat with ⟨a, e⟩ | ⟨a, _, b, c, e⟩ | ⟨a, _, b, c, d, f, e⟩ | ⟨a, _, b, c, d, f, g, e⟩ | e
  · rw [e]; simp only []; omega
  · rw [e]; simp only []; omega
  · rw [e]; simp only []; omega
  · rw [e]; simp only []; omega
  · exact absurd ⟨by rw [e], by rw [e]⟩ h

theorem txt_cons (x : Int) (xs : List Int) : txt (x :: xs) = encodeRune x ++ txt xs := rfl
theorem txt_append (a b : List Int) : txt (a ++ b) = txt a ++ txt b := by simp [txt]

theorem validGo_iff : ∀ (n : Nat) (l : List UInt8), l.length ≤ n → (validGoD n l = true ↔ ∃ xs : List Int, (∀ x ∈ xs, okv x) ∧ l = txt xs)
  | 0, l, h => by
    obtain rfl : l = [] := by simpa using h
    simp only [validGoD, true_iff]
    exact ⟨[], by simp, rfl⟩
  | n + 1, l, h => by
    unfold validGoD
    by_cases h0 : l = []
    · rw [if_pos h0]; subst h0
      exact ⟨fun _ => ⟨[], by simp, rfl⟩, fun _ => rfl⟩
    · rw [if_neg h0]
      have hle := decodeL_le l h0
      have hw := decodeL_width l
      by_cases hb : (decodeL l).1 = 65533 ∧ (decodeL l).2 = 1
      · rw [if_pos hb]
        refine ⟨fun h => (by cases h), ?_⟩
        rintro ⟨xs, hx, rfl⟩
        cases xs with
        | nil => exact absurd rfl h0
        | cons x xs =>
          rw [txt_cons, dec_enc (hx x (by simp))] at hb
          exact absurd ⟨by have := (hx x (by simp)).1; have := hb.1; omega, hb.2⟩ (enc_one (hx x (by simp)))
      · rw [if_neg hb, validGo_iff n _ (by simp; omega)]
        constructor
        · rintro ⟨xs, hx, e⟩
          refine ⟨((decodeL l).1 : Int) :: xs, ?_, ?_⟩
          · intro x hx2
            rcases List.mem_cons.1 hx2 with rfl | hx2
            · exact dec_ok l hb
            · exact hx x hx2
          · rw [txt_cons, encode_decode l h0 hb, ← e, List.take_append_drop]
        · rintro ⟨xs, hx, rfl⟩
          cases xs with
          | nil => exact absurd rfl h0
          | cons x xs =>
            refine ⟨xs, fun y hy => hx y (by simp [hy]), ?_⟩
            rw [txt_cons, dec_enc (hx x (by simp))]
            simp

/-- A TEXT IS VALID JUST WHERE IT IS THE TEXT OF SIGNS. -/
theorem valid_iff (l : List UInt8) : validD l = true ↔ ∃ xs : List Int, (∀ x ∈ xs, okv x) ∧ l = txt xs := validGo_iff _ _ (Nat.le_refl _)

/-- .. of one list of signs alone -/
theorem txt_inj : ∀ {xs ys : List Int}, (∀ x ∈ xs, okv x) → (∀ y ∈ ys, okv y) → txt xs = txt ys → xs = ys
  | [], [], _, _, _ => rfl
  | [], y :: ys, _, hy, h => by
    have := (enc_len (hy y (by simp))).1
    have h2 := congrArg List.length h
    rw [txt_cons] at h2
    simp [txt] at h2
    omega
  | x :: xs, [], hx, _, h => by
    have h1 := (enc_len (hx x (by simp))).1
    have h2 := congrArg List.length h
    rw [txt_cons, List.length_append] at h2
    have h3 : (txt []).length = 0 := rfl
    omega
  | x :: xs, y :: ys, hx, hy, h => by
    rw [txt_cons, txt_cons] at h
    have h1 := dec_enc (hx x (by simp)) (txt xs)
    rw [h, dec_enc (hy y (by simp))] at h1
    have e1 : x = y := by
      have := congrArg Prod.fst h1
      have a := (hx x (by simp)).1
      have b := (hy y (by simp)).1
      simp only [] at this
      omega
    subst e1
    have e2 := List.append_cancel_left h
    rw [txt_inj (fun z hz => hx z (by simp [hz])) (fun z hz => hy z (by simp [hz])) e2]

theorem dec_drop (s : ByteArray) (p : Nat) : Go.Utf8.decode s p = decodeL (s.data.toList.drop p) := by
  rw [dL, decode_at]
  have g : ∀ k, s.get! (p + k) = (s.data.toList.drop p).getD k 0 := fun k => by
    show s.data[p + k]! = _
    have h : (s.data.toList.drop p)[k]? = s.data[p + k]? := by simp
    rw [List.getD_eq_getElem?_getD, h, getElem!_def]
    cases s.data[p + k]? <;> rfl
  have g0 := g 0
  simp only [Nat.add_zero] at g0
  rw [g0, g 1, g 2, g 3]
  simp

/-- the sign at the place where those of the first k end -/
theorem dec_at {s : ByteArray} {xs : List Int} (hx : ∀ x ∈ xs, okv x) (hs : s.data.toList = txt xs) {k : Nat} (hk : k < xs.length) :
    Go.Utf8.decode s (txt (xs.take k)).length = (xs[k].toNat, (encodeRune xs[k]).length) ∧ (txt (xs.take (k + 1))).length = (txt (xs.take k)).length + (encodeRune xs[k]).length ∧ (txt (xs.take k)).length < s.size := by
  have e : s.data.toList = txt (xs.take k) ++ (encodeRune xs[k] ++ txt (xs.drop (k + 1))) := by
    rw [hs, ← txt_cons, List.getElem_cons_drop hk, ← txt_append, List.take_append_drop]
  have hl := (enc_len (hx _ (List.getElem_mem hk))).1
  refine ⟨?_, ?_, ?_⟩
  · rw [dec_drop, e, List.drop_left]
    exact dec_enc (hx _ (List.getElem_mem hk)) _
  · rw [List.take_succ_eq_append_getElem hk, txt_append]
    simp [txt]
  · have h2 := congrArg List.length e
    have h3 : s.data.toList.length = s.size := rfl
    simp only [List.length_append] at h2
    omega
theorem txt_size {s : ByteArray} {xs : List Int} (hs : s.data.toList = txt xs) : (txt xs).length = s.size := by rw [← hs]; rfl
end Go.Proofs.YtkmnmigpnbehaaaDoor
