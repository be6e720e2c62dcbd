/- Plain laws of texts and their signs; Signs at every text (for seats that hold no writer of texts). -/
import Derived.Test.YtgbfekimflnaiaaDoorUtfC
import Derived.Test.YtgbfekimflnaiaaDoorUtfE
import Derived.Test.YtgbfekimflnaiaaDoorKeep
namespace Go.Proofs.YtgbfekimflnaiaaDoor
open Go.RowKit Go.Shelf

theorem Tabs.below {w w' : World} (h : Tabs w) (hb : Below w.heap.size w w') : Tabs w' := Utf8Tabs_below h hb
theorem Tabs.drewN {w : World} (h : Tabs w) (n : Nat) : Tabs (w.drewN n) := h.below ((Below.refl _ w).drewN n)
theorem Tabs.alloc {w : World} (h : Tabs w) (o : Obj) : Tabs (w.alloc o) := h.below ((Below.refl _ w).alloc (Nat.le_refl _) o)

/-- a slice of numbers, written out -/
theorem sl_lit (w : World) (l : List Int) (hl : l.length ≤ maxLen) : Sl (w.alloc (.cells (l.flatMap encI).toArray 3)) 1 encI (.slice (some ⟨w.heap.size, 0, none⟩) l.length l.length) l := by
  refine sl_of_block (World.alloc_heap_new w _) ?_ (fun _ _ => rfl) (Nat.le_refl _) hl
  have : ∀ l : List Int, (l.flatMap encI).length = l.length * 1 := by
    intro l
    induction l with
    | nil => rfl
    | cons a l ih => rw [List.flatMap_cons, List.length_append, ih]; simp [encI]; omega
  simp only [← this l, List.take_length]

theorem sgn_len (s : ByteArray) : (sgn s.data.toList).length ≤ s.size := by
  cases hv : Lib.validD s.data.toList with
  | false => rw [sgn_no hv]; exact Nat.zero_le _
  | true =>
    obtain ⟨h1, h2⟩ := sgn_yes hv
    have := len_txt h1
    rw [← h2] at this
    exact this
theorem sgn_rng (t : List UInt8) : ∀ x ∈ sgn t, -9223372036854775808 ≤ x ∧ x ≤ 9223372036854775807 := by
  cases hv : Lib.validD t with
  | false => rw [sgn_no hv]; intro x hx; cases hx
  | true =>
    intro x hx
    obtain ⟨a, b, -⟩ := (sgn_yes hv).1 x hx
    omega
theorem valid_cat {s : List UInt8} (hv : Lib.validD s = true) (u : List UInt8) : Lib.validD (s ++ u) = Lib.validD u := by
  obtain ⟨h1, h2⟩ := sgn_yes hv
  rw [h2]
  cases hu : Lib.validD u with
  | false => exact valid_app h1 hu
  | true =>
    obtain ⟨k1, k2⟩ := sgn_yes hu
    rw [k2, ← txt_append]
    exact (valid_iff _).2 ⟨_, fun x hx => (List.mem_append.1 hx).elim (h1 x) (k1 x), rfl⟩
theorem sgn_cat {s u : List UInt8} (hv : Lib.validD s = true) (hu : Lib.validD u = true) : sgn (s ++ u) = sgn s ++ sgn u := by
  obtain ⟨h1, h2⟩ := sgn_yes hv
  obtain ⟨k1, k2⟩ := sgn_yes hu
  refine sgn_of (fun x hx => (List.mem_append.1 hx).elim (h1 x) (k1 x)) ?_
  rw [txt_append, ← h2, ← k2]
end Go.Proofs.YtgbfekimflnaiaaDoor
