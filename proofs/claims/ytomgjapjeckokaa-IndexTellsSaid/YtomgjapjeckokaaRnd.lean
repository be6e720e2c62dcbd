/- A region that defers nothing, drawn in a round of a loop over a function, is walked as outside of every round: operations may be taken first. -/
import Derived.Test.YtomgjapjeckokaaRangeY
namespace Go.Proofs.Ytomgjapjeckokaa
open Go.RowKit
def noDefer (ops : Array Oper) : Bool := ops.toList.all fun o => match o.op with | .defer _ => false | _ => true
theorem oper_out {F : Fence} {n l : Nat} {P : Program} {o : Oper} {a : Act} {w : World} {K : Act → World → Prop} {Q : Exit → Act → World → Prop} (ho : ∀ c, o.op ≠ .defer c) (_hr : F.round = none)
    (h : o.wpIn F n P a w K Q) : o.wpIn (F.inRound l) n P a w K Q := by
  unfold Oper.wpIn at *
  rw [Oper.semAt_eq _ _ _ ho] at h ⊢
  exact h
theorem opIn_out {F : Fence} {n l i : Nat} {P : Program} {ops : Array Oper} {a : Act} {w : World} {K : Act → World → Prop} {Q : Exit → Act → World → Prop} (hn : noDefer ops = true) (hr : F.round = none)
    (h : wpOpIn F n P ops Q i K a w) : wpOpIn (F.inRound l) n P ops Q i K a w := by
  unfold wpOpIn at *
  cases ho : ops[i]? with
  | none => simpa [ho] using h
  | some o =>
    simp only [ho] at h ⊢
    have hd : ∀ c, o.op ≠ .defer c := by
      intro c hc
      have h1 := List.all_eq_true.1 hn o (Array.mem_toList_iff.2 (Array.mem_of_getElem? ho))
      rw [hc] at h1; cases h1
    split
    · rename_i hw; rw [if_pos hw] at h; exact oper_out hd hr h
    · rename_i hw; rw [if_neg hw] at h; exact h
theorem anyIn_out {F : Fence} {n l : Nat} {P : Program} {md : Region.Mode} {ops : Array Oper} {Q : Exit → Act → World → Prop} (hn : noDefer ops = true) (hr : F.round = none) :
    ∀ (fuel : Nat) (listed : Array Bool) (a : Act) (w : World), wpAnyIn F n P md ops Q fuel listed a w → wpAnyIn (F.inRound l) n P md ops Q fuel listed a w := by
  intro fuel
  induction fuel with
  | zero => intro listed a w h; exact h
  | succ fuel ih =>
    intro listed a w h
    exact ⟨h.1, fun i hi => opIn_out hn hr (wpOpIn_mono (fun a w => ih _ _ _) (h.2 i hi))⟩
theorem region_out {F : Fence} {n l id : Nat} {P : Program} {ops : Array Oper} {Q : Exit → Act → World → Prop} {a : Act} {w : World} (hm : P.follows .mixedOrders = true) (hn : noDefer ops = true) (hr : F.round = none)
    (h : wpAnyIn F n P .any ops Q ops.size (Array.replicate ops.size false) a w.drew) : (Code.region id ops true).wpIn (F.inRound l) n P Q a w :=
  wpIn_region_any hm (anyIn_out hn hr _ _ _ _ h)
end Go.Proofs.Ytomgjapjeckokaa
