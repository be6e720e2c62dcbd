/- Plain laws of the reference's Text. -/
import Derived.Test.YtkmnmigpnbehaaaDoorScX
namespace Go.Proofs.YtkmnmigpnbehaaaDoor
open Go.RowKit Go.Shelf Go.Lib

/-- the reference's numeral -/
def decS (n : Int) : L8 := if n < 0 then [63] else decDigits n.toNat
def sayD (x : Op8) (c : UInt8) : L8 := if c = 88 then hexS x.src else decS (getF x c)
def spellD (f : Int × L8 × L8) (x : Op8) : L8 := joinB [32] (f.2.1 :: f.2.2.map (sayD x))
theorem decS_nat (n : Nat) : decS (n : Int) = decDigits n := by
  unfold decS
  rw [if_neg (by omega)]
  simp
theorem sayD_say {x : Op8} {c : UInt8} (h : 0 ≤ getF x c) : sayD x c = sayS x c := by
  unfold sayD sayS
  split
  · rfl
  · obtain ⟨m, hm⟩ : ∃ m : Nat, getF x c = m := ⟨(getF x c).toNat, by omega⟩
    rw [hm, decS_nat, itoa_nonneg]
theorem spellD_fits {f : Int × L8 × L8} (hf : f ∈ formsL) {x : Op8} (h : fits f x) : spellD f x = spellS f x := by
  obtain ⟨-, h2, -, -, -⟩ := h
  unfold spellD spellS wordsOf
  congr 2
  refine List.map_congr_left fun c hc => ?_
  rcases (forms_good f hf).2.1 c hc with rfl | hl
  · unfold sayD sayS
    rw [if_pos rfl, if_pos rfl]
  · exact sayD_say (h2 c hc hl).1
/-- what the reference's Text answers of an operation of a form's kind -/
def ansT (f : Int × L8 × L8) (x : Op8) : L8 := if x.src.length ≤ 240 ∧ lineS (spellD f x) = some x then spellD f x else []
theorem ans_eq {f : Int × L8 × L8} (hf : f ∈ formsL) {x : Op8} (hk : f.1 = x.kind) : ansT f x = (textO x).getD [] := by
  unfold ansT
  by_cases h : x.src.length ≤ 240 ∧ lineS (spellD f x) = some x
  · rw [if_pos h]
    obtain ⟨g, hg, hs, hfit⟩ := spell_line h.2
    obtain rfl := forms_apart f hf g hg (.inl (hk.trans hfit.1))
    have h2 := textO_of hf hk (by rw [hs]; exact h.2)
    rw [h2, hs]
    rfl
  · rw [if_neg h]
    cases e : textO x with
    | none => rfl
    | some T =>
      exfalso
      obtain ⟨g, hg, hgk, hgl, -⟩ := textO_some e
      obtain rfl := forms_apart f hf g hg (.inl (hk.trans hgk.symm))
      obtain ⟨g2, hg2, hs2, hfit⟩ := spell_line hgl
      obtain rfl := forms_apart f hf g2 hg2 (.inl (hk.trans hfit.1))
      refine h ⟨(fits_ok hfit).2, ?_⟩
      rw [spellD_fits hf hfit]
      exact hgl
theorem kind_none {x : Op8} (h : x.kind < 1 ∨ 8 < x.kind) : textO x = none := by
  cases e : textO x with
  | none => rfl
  | some T =>
    obtain ⟨g, hg, hgk, -, -⟩ := textO_some e
    obtain ⟨k, h1, h8, hk, -⟩ := form_name hg
    omega
theorem long_none {x : Op8} (h : 240 < x.src.length) : textO x = none := by
  cases e : textO x with
  | none => rfl
  | some T =>
    obtain ⟨g, hg, hgk, hgl, -⟩ := textO_some e
    have := (line_back hgl).2.1
    omega
end Go.Proofs.YtkmnmigpnbehaaaDoor
