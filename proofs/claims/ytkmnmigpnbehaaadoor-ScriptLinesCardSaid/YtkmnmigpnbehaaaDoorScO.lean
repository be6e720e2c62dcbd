/- The walk of script's Text. -/
import Derived.Test.YtkmnmigpnbehaaaDoorScN
import Derived.Lib.ItoaLen
import Derived.Lib.Join
namespace Go.Proofs.YtkmnmigpnbehaaaDoor
open Go.RowKit Go.Shelf Go.Lib

deriving instance DecidableEq for Op8
/-- what a form says of an operation, if that is its line -/
def textF (x : Op8) (f : Int × L8 × L8) : Option L8 := if f.1 = x.kind ∧ lineS (spellS f x) = some x then some (spellS f x) else none
def textO (x : Op8) : Option L8 := formsL.findSome? (textF x)
/-- numbers are ints -/
def OkO (x : Op8) : Prop := ∀ c ∈ lets, -9223372036854775808 ≤ getF x c ∧ getF x c ≤ 9223372036854775807

theorem join_B (sep : L8) : ∀ ws : List L8, Lib.join ws sep = joinB sep ws
  | [] => rfl
  | [x] => Lib.join_one x sep
  | x :: y :: r => by
    have ih := join_B sep (y :: r)
    show _ = x ++ sep ++ joinB sep (y :: r)
    rw [← ih]
    simp [Lib.join, List.intercalate, List.intersperse]
theorem sum_le {l : List L8} {m : Nat} (h : ∀ w ∈ l, w.length ≤ m) : (l.map fun w => w.length + 1).sum ≤ l.length * (m + 1) := by
  induction l with
  | nil => simp
  | cons a r ih =>
    have h1 := h a List.mem_cons_self
    have h2 := ih fun w hw => h w (List.mem_cons_of_mem _ hw)
    rw [List.map_cons, List.sum_cons, List.length_cons, Nat.add_mul]
    omega
theorem say_len {x : Op8} (hx : OkO x) {c : UInt8} (hc : c = 88 ∨ c ∈ lets) : (sayS x c).length ≤ 2 * x.src.length + 21 := by
  unfold sayS
  by_cases h : c = 88
  · rw [if_pos h]
    unfold hexS
    split
    · simp
    · rw [hx_len]; omega
  · rw [if_neg h]
    have hcl := hc.resolve_left h
    have := Lib.itoa_length_le _ (hx c hcl).1 (hx c hcl).2
    omega
theorem names_short : ∀ f ∈ formsL, f.2.1.length ≤ 8 := by decide +kernel
theorem spell_len {f : Int × L8 × L8} (hf : f ∈ formsL) {x : Op8} (hx : OkO x) : (spellS f x).length ≤ 8 * (2 * x.src.length + 22) := by
  have h1 := lines_sum 32 (spellS f x)
  rw [spell_cut hf] at h1
  have h2 := sum_le (l := wordsOf f x) (m := 2 * x.src.length + 21) (by
    intro w hw
    rcases List.mem_cons.1 hw with rfl | hw
    · have := names_short f hf; omega
    · obtain ⟨c, hc, rfl⟩ := List.mem_map.1 hw
      exact say_len hx ((forms_good f hf).2.1 c hc))
  have h3 : (wordsOf f x).length ≤ 8 := by
    unfold wordsOf
    have := forms_small f hf
    simp; omega
  have h4 : (wordsOf f x).length * (2 * x.src.length + 21 + 1) ≤ 8 * (2 * x.src.length + 22) := Nat.mul_le_mul h3 (Nat.le_refl _)
  omega
theorem own_ne {W : World} {base : Nat} {e t : TypeId} {size : Nat} {v : Value} {n b : Nat} {xs : List Value} {cs : Array Value} {fr : Nat × Nat} (h : W.ownsRow base e size v n xs) (hb : W.heap[b]? = some (.cells cs t fr)) (ht : t ≠ e) : v.ownBlock ≠ some b := by
  obtain ⟨-, ⟨rfl, -⟩ | ⟨g, c, cur, rfl, -, hh, -⟩⟩ := h
  · simp [Value.ownBlock]
  · intro e1
    simp [Value.ownBlock] at e1
    subst e1
    rw [hh] at hb
    cases hb
    exact ht rfl
theorem grown_blk {W W' : World} {base : Nat} {e : TypeId} {size : Nat} {v : Value} {n : Nat} {xs : List Value} (h : W.ownsRow base e size v n xs) (hg : W.grownBy W' v.ownBlock) {b : Nat} (hb : b < base) {o : Obj} (ho : W.heap[b]? = some o) : W'.heap[b]? = some o := by
  refine (hg.block b (Array.getElem?_eq_some_iff.1 ho).1 fun e1 => ?_).trans ho
  have := own_baseS h e1.symm
  omega
/-- what Text answers -/
def TextE (x : OpB) (n₀ : Nat) (w : World) (e : Ending) (w' : World) : Prop :=
  e = .returned (.tuple #[.string ⟨((textO (op8 x)).getD []).toArray⟩, .int .i64 (if (textO (op8 x)).isSome then 0 else 11)]) ∧ Below n₀ w w'
end Go.Proofs.YtkmnmigpnbehaaaDoor
