/- Short names for the steps of printed scripts (a claim's bytes are bounded). -/
import Derived.Deep.RegionHeld3
namespace Go.Proofs.YtempicociampoaaGreatDoor
open Go

theorem tkH {P : Program} {ops : Array Oper} {Q : Exit → Act → World → Prop} {md : Region.Mode} {S : World → Prop} (i : Nat) (d : Option Tmp) {o : Op} {t : TypeId} {p : String} {af : Array Edge} {gu : Option (Nat × Bool)} (v : Value) {fuel : Nat} {listed : Array Bool} {a : Act} {w : World} (hi : ops[i]? = some ⟨d, o, t, p, af, gu⟩)
    (hy : YieldsIf P ops S ⟨d, o, t, p, af, gu⟩ v a) (h : wpAnyH P md ops Q S fuel (listed.setIfInBounds i true) (a.put d v) w)
    (hs : Region.noSelect ops = true := by kernel_rfl) (hf : Region.free md ops listed i = true := by kernel_rfl) (hr : (Region.ready md ops listed).contains i = true := by kernel_rfl)
    (hQ : ∀ c a w, Q (.panic c) (a.put d v) w → Q (.panic c) a w := by exact fun _ _ _ h => h) (hS : S w := by assumption) : wpAnyH P md ops Q S (fuel + 1) listed a w :=
  wpAnyH_take hi hs hf hr hQ hy hS h
theorem aS {α : Type} (l : List α) (i : Nat) (x : α) : l.toArray.setIfInBounds i x = (l.set i x).toArray := List.setIfInBounds_toArray l i x
theorem aZ {α : Type} (y x : α) (l : List α) : (y :: l).set 0 x = x :: l := List.set_cons_zero
theorem aC {α : Type} (y x : α) (l : List α) (i : Nat) : (y :: l).set (i + 1) x = y :: l.set i x := List.set_cons_succ
end Go.Proofs.YtempicociampoaaGreatDoor
