/- The walk of keep.Pieces, of alike ones. -/
import Derived.Test.YtjkfefjfmocekaaDoorSetI
import Derived.Deep.QuietTactic
import Derived.BigQuiet
namespace Go.Proofs.YtjkfefjfmocekaaDoor
open Go.RowKit Go.Shelf

theorem neq_it (x : It) (w : World) : (binOp .neq 34 (.agg (encIt x).toArray) (.agg (encIt x).toArray)).run Tryd.prog w = .ok (.bool false) w := by
  simp only [binOp, Sem.run_bind, Op.equal, Op.maxDepth, encIt]
  have e := Tryd.underlying34
  simp [go_sem, e]

set_option maxRecDepth 100000 in
set_option maxHeartbeats 1000000 in
theorem Items_eq (w : World) (va vb : Value) (l : List It) (ha : Sl w 6 encIt va l) (hb : Sl w 6 encIt vb l) :
    Calls Tryd.prog 12 #[va, vb] w fun e w' => e = .returned (.bool true) ∧ ∃ n, w' = w.drewN n := by
  by_cases h0 : l = []
  · subst h0
    obtain ⟨pa, ca, rfl, _⟩ := ha.shape
    obtain ⟨pb, cb, rfl, _⟩ := hb.shape
    clear ha hb
    go_enter Tryd.func12, Tryd.ntmps12
    go_wp2
    go_loopw [4, 5] (fun r i wr => r = .bool false ∧ i = .int .i64 0 ∧ wr = w) (fun _ _ _ => 0)
    case atStart => exact ⟨rfl, rfl, rfl⟩
    case round =>
      obtain ⟨rfl, rfl, rfl⟩ := hrel
      go_wp2
      go_ret
      exact ⟨rfl, 0, rfl⟩
  · obtain ⟨ab, ao, ac, rfl, ha1, ha2, ha3⟩ := ha.open h0
    obtain ⟨bb, bo, bc, rfl, hb1, hb2, hb3⟩ := hb.open h0
    clear ha hb h0
    unfold maxLen at ha2 hb2
    have Ha := hid ha3
    have Hb := hid hb3
    clear ha3 hb3
    go_enter Tryd.func12, Tryd.ntmps12
    go_wp2
    go_loopw [4, 5] (fun r i wr => ∃ k n : Nat, r = .bool false ∧ k ≤ l.length ∧ i = .int .i64 k ∧ wr = w.drewN n) (fun _ i _ => l.length - (RowKit.intOf i).toNat)
    case atStart => exact ⟨0, 0, rfl, Nat.zero_le _, rfl, rfl⟩
    case round =>
      obtain ⟨k, n, rfl, hk, rfl, rfl⟩ := hrel
      by_cases hlt : k < l.length
      · have la := rangeAt_drewN2 n (Ha.out k l[k] (List.getElem?_eq_getElem hlt))
        have lb := rangeAt_drewN2 n (Hb.out k l[k] (List.getElem?_eq_getElem hlt))
        have hq := fun w => neq_it l[k] w
        generalize l[k] = x at *
        have sa : (Tryd.prog.info? 34).map (·.size) = some (encIt x).length := by kernel_rfl
        go_wp2
        refine wp_region_quiet_lit (by kernel_rfl) (by kernel_rfl) ?_
        repeat (quiet_step (fail))
        refine wpQuiet_load_mid rfl _ _ rfl _ _ rfl _ _ la Tryd.underlying34 rfl sa ?_
        repeat (quiet_step (fail))
        refine wpQuiet_load_mid rfl _ _ rfl _ _ rfl _ _ lb Tryd.underlying34 rfl sa ?_
        refine wpQuiet_binOp rfl _ _ _ _ _ rfl _ _ _ rfl rfl (fun w => run_eqGuard_agg w _ _ _ _ _ _ (by kernel_rfl)) hq ?_
        repeat (quiet_step (fail))
        refine wpQuiet_nil ?_
        rintro _ ⟨nq, rfl⟩
        go_wp2
        go_roundw
        case rel => exact ⟨k + 1, _, rfl, by omega, by go_num, by first | rfl | exact World.drewN_drewN ..⟩
        case measure => simp [RowKit.intOf]; omega
      · go_wp2
        go_ret
        exact ⟨rfl, _, rfl⟩
end Go.Proofs.YtjkfefjfmocekaaDoor
