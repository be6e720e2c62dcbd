/- Plain laws of the reference's numbers. -/
import Derived.Test.YtgakaomcdpgnkaaDoorHypR
namespace Go.Proofs.YtgakaomcdpgnkaaDoor
open Go.RowKit Go.Lib

/-- the numbers between the letters, out of the places of the dotted word -/
def win (n : Nat) (l : List Int) : List Int := (l.drop 2).take (n - 1)
theorem win_set (n : Nat) (l : List Int) (i : Nat) (v : Int) : win n (l.set i v) = if 2 ≤ i ∧ i - 2 < n - 1 then (win n l).set (i - 2) v else win n l := by
  unfold win
  by_cases h : 2 ≤ i
  · rw [List.drop_set, if_neg (by omega), List.take_set]
    by_cases h2 : i - 2 < n - 1
    · rw [if_pos ⟨h, h2⟩]
    · rw [if_neg (by omega), List.set_eq_of_length_le (by simp; omega)]
  · rw [List.drop_set, if_pos (by omega), if_neg (by omega)]
theorem win_getD (n : Nat) (l : List Int) (i : Nat) (h : 2 ≤ i) (h2 : i - 2 < n - 1) : (win n l).getD (i - 2) 0 = l.getD i 0 := by
  unfold win
  rw [List.getD_eq_getElem?_getD, List.getD_eq_getElem?_getD, List.getElem?_take, if_pos h2, List.getElem?_drop, show 2 + (i - 2) = i by omega]
theorem win_add (n : Nat) (A : List Int) (f : Nat) (nums : List Int) (k : Nat) : win n (addN A f nums (k + 1)) =
    if 2 ≤ f + k ∧ f + k - 2 < n - 1 then (win n (addN A f nums k)).set (f + k - 2) (max ((win n (addN A f nums k)).getD (f + k - 2) 0) (nums.getD k 0)) else win n (addN A f nums k) := by
  rw [addN, win_set]
  by_cases h : 2 ≤ f + k ∧ f + k - 2 < n - 1
  · rw [if_pos h, if_pos h, win_getD _ _ _ h.1 h.2]
  · rw [if_neg h, if_neg h]

/-- past the last place where its letters find room, a pattern hits no more -/
theorem onePat_past (w : List UInt8) (p : Pat) (A : List Int) (f : Nat) (hp : 1 ≤ p.letters.length) (hf : w.length < f + p.letters.length) : ∀ k, onePat w p A (f + k) = onePat w p A f := by
  intro k
  induction k with
  | zero => rfl
  | succ k ih =>
    rw [show f + (k + 1) = f + k + 1 by omega, onePat, stepF, if_neg, ih]
    unfold hits
    rw [Bool.not_eq_true, Bool.eq_false_iff]
    intro h
    have := (List.isPrefixOf_iff_prefix.1 h).length_le
    rw [List.length_drop] at this
    omega
theorem hits_take (w : List UInt8) (p : Pat) (f : Nat) : hits w p f = ((w.drop f).take p.letters.length == p.letters) := by
  unfold hits
  rw [Bool.eq_iff_iff, List.isPrefixOf_iff_prefix, List.prefix_iff_eq_take, beq_iff_eq]
  exact eq_comm

theorem asc_let : ∀ n : Nat, n < 128 → isLet n.toUInt8 = letter (n : Int) := by decide +kernel
theorem asc_low : ∀ n : Nat, n < 128 → lowB n.toUInt8 = (lower (n : Int)).toNat.toUInt8 := by decide +kernel
theorem enc_big {x : Int} (h : okv x) (hx : 128 ≤ x) : (encodeRune x).all isLet = false := by
  have key : ∃ c ∈ encodeRune x, 128 ≤ c.toNat := by
    have big : ∀ y : Int, 128 ≤ y → y < 256 → 128 ≤ (y.toNat.toUInt8).toNat := fun y h1 h2 => by
      rw [show (y.toNat.toUInt8).toNat = y.toNat % 256 by simp]; omega
    obtain ⟨-, hm, -⟩ := id h
    rcases encZ_cases h with ⟨h1, e⟩ | ⟨h1, h2, e⟩ | ⟨h1, h2, e⟩ | ⟨h1, e⟩
    · omega
    · exact ⟨_, by rw [encodeRune, e]; exact List.mem_cons_self, big _ (by omega) (by omega)⟩
    · exact ⟨_, by rw [encodeRune, e]; exact List.mem_cons_self, big _ (by omega) (by omega)⟩
    · exact ⟨_, by rw [encodeRune, e]; exact List.mem_cons_self, big _ (by omega) (by omega)⟩
  obtain ⟨c, hc, hc2⟩ := key
  rw [Bool.eq_false_iff]
  intro h2
  have h3 := List.all_eq_true.1 h2 c hc
  have h4 := let_byte c.toNat c.toNat_lt (by simpa using h3)
  omega
theorem let_enc {x : Int} (h : okv x) : (encodeRune x).all isLet = letter x := by
  by_cases hx : x < 128
  · have h0 : 0 ≤ x := by unfold okv at h; omega
    obtain ⟨n, rfl⟩ : ∃ n : Nat, x = n := ⟨x.toNat, by omega⟩
    rw [enc_ascii n (by omega), List.all_cons, List.all_nil, Bool.and_true, asc_let n (by omega)]
  · rw [enc_big h (by omega)]
    symm
    unfold letter lower
    simp; omega
theorem let_txt {L : List Int} (h : ∀ x ∈ L, okv x) : (txt L).all isLet = L.all letter := by
  induction L with
  | nil => rfl
  | cons x L ih => rw [txt_cons, List.all_append, List.all_cons, let_enc (h x (by simp)), ih (fun y hy => h y (by simp [hy]))]
def lowL (L : List Int) : List UInt8 := L.map fun x => (lower x).toNat.toUInt8
theorem letter_asc {x : Int} (h : letter x = true) : 65 ≤ x ∧ x ≤ 122 := by
  unfold letter lower at h
  simp at h
  omega
theorem low_txt {L : List Int} (h : L.all letter = true) : (txt L).map lowB = lowL L := by
  induction L with
  | nil => rfl
  | cons x L ih =>
    rw [List.all_cons, Bool.and_eq_true] at h
    have hb := letter_asc h.1
    obtain ⟨n, rfl⟩ : ∃ n : Nat, x = n := ⟨x.toNat, by omega⟩
    rw [txt_cons, List.map_append, ih h.2, enc_ascii n (by omega)]
    simp [lowL, asc_low n (by omega)]
theorem numbers_ref {L : List Int} (h : ∀ x ∈ L, okv x) : numbersL (txt L) = if L.all letter = true ∧ 2 ≤ L.length ∧ L.length ≤ 60 then numsOf (lowL L) else [] := by
  unfold numbersL smallL
  rw [let_txt h]
  by_cases hl : L.all letter = true
  · have e1 := low_txt hl
    have e2 : (txt L).length = L.length := by
      have := congrArg List.length e1
      simpa [lowL] using this
    rw [e1, e2]
    by_cases hc : L.all letter = true ∧ 2 ≤ L.length ∧ L.length ≤ 60
    · rw [if_pos hc, if_pos hc]
    · rw [if_neg hc, if_neg hc]
  · rw [if_neg (by rintro ⟨h1, -⟩; exact hl h1), if_neg (by rintro ⟨h1, -⟩; exact hl h1)]
end Go.Proofs.YtgakaomcdpgnkaaDoor
