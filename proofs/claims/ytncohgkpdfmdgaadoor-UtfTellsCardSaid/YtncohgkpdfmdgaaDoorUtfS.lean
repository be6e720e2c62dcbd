/- Plain laws of texts and their signs; Signs at every text. -/
import Derived.Test.YtncohgkpdfmdgaaDoorUtfW
namespace Go.Proofs.YtncohgkpdfmdgaaDoor
open Go.RowKit Go.Shelf

theorem Signs_any (s : ByteArray) (w : World) (hs : s.size ≤ 1000000) (hT : Tabs w) :
    Calls Tryd.prog 15 #[.string s] w fun e w' => ∃ v, e = .returned v ∧ Sl w' 1 encI v (sgn s.data.toList) ∧ Below w.heap.size w w' := by
  cases hv : Lib.validD s.data.toList with
  | false =>
    refine (Signs_no s w (by omega) hT hv).mono fun e w' ⟨he, hB⟩ => ⟨_, he, ?_, hB⟩
    rw [sgn_no hv]; exact .inl ⟨rfl, rfl⟩
  | true =>
    obtain ⟨h1, h2⟩ := sgn_yes hv
    exact Signs_yes s w hs hT _ h1 h2

theorem sgn_len (s : ByteArray) : (sgn s.data.toList).length ≤ s.size := by
  cases hv : Lib.validD s.data.toList with
  | false => rw [sgn_no hv]; exact Nat.zero_le _
  | true =>
    obtain ⟨h1, h2⟩ := sgn_yes hv
    have := len_txt h1
    rw [← h2] at this
    exact this
theorem sgn_rng (t : List UInt8) : ∀ x ∈ sgn t, -9223372036854775808 ≤ x ∧ x ≤ 9223372036854775807 := by
  cases hv : Lib.validD t with
  | false => rw [sgn_no hv]; intro x hx; cases hx
  | true =>
    intro x hx
    obtain ⟨a, b, -⟩ := (sgn_yes hv).1 x hx
    omega
theorem text_sgn {s : ByteArray} (hv : Lib.validD s.data.toList = true) : textOut (sgn s.data.toList) = #[.string s, .int .i64 0] := by
  obtain ⟨h1, h2⟩ := sgn_yes hv
  rw [show textOut (sgn s.data.toList) = _ from if_pos h1, ← h2]
theorem valid_cat {s : List UInt8} (hv : Lib.validD s = true) (u : List UInt8) : Lib.validD (s ++ u) = Lib.validD u := by
  obtain ⟨h1, h2⟩ := sgn_yes hv
  rw [h2]
  cases hu : Lib.validD u with
  | false => exact valid_app h1 hu
  | true =>
    obtain ⟨k1, k2⟩ := sgn_yes hu
    rw [k2, ← txt_append]
    exact (valid_iff _).2 ⟨_, fun x hx => (List.mem_append.1 hx).elim (h1 x) (k1 x), rfl⟩
theorem sgn_cat {s u : List UInt8} (hv : Lib.validD s = true) (hu : Lib.validD u = true) : sgn (s ++ u) = sgn s ++ sgn u := by
  obtain ⟨h1, h2⟩ := sgn_yes hv
  obtain ⟨k1, k2⟩ := sgn_yes hu
  refine sgn_of (fun x hx => (List.mem_append.1 hx).elim (h1 x) (k1 x)) ?_
  rw [txt_append, ← h2, ← k2]
end Go.Proofs.YtncohgkpdfmdgaaDoor
