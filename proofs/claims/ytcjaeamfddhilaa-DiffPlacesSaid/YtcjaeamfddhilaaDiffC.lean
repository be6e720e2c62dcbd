/- The walk of the reference's list of what differs (by gen_diffc.py). -/
import Derived.Test.YtcjaeamfddhilaaDiffB
namespace Go.Proofs.Ytcjaeamfddhilaa
open Go.RowKit

theorem own_base {W : World} {base : Nat} {e : TypeId} {size : Nat} {v : Value} {n : Nat} {xs : List Value} (h : W.ownsRow base e size v n xs) {j : Nat} (hj : v.ownBlock = some j) : base ≤ j := by
  rcases h.2 with ⟨rfl, _⟩ | ⟨g, cap, cur, rfl, hg, _⟩
  · simp [Value.ownBlock] at hj
  · simp [Value.ownBlock] at hj; omega

set_option maxRecDepth 100000 in
set_option maxHeartbeats 2000000 in
theorem RList_any (w : World) (va vb : Value) (a b : List (List Int)) (hx : ∀ x ∈ a, x.length = 32) (hy : ∀ x ∈ b, x.length = 32) (ha : Sl w 32 u8s va a) (hb : Sl w 32 u8s vb b) (la : a.length ≤ 1000) (lb : b.length ≤ 1000) :
    Calls Try.prog 9 #[va, vb] w fun e w' => ∃ v, e = .returned v ∧ Sl w' 1 encI v (codes (plList a b)) ∧ Below w.heap.size w w' := by
  obtain ⟨pa, ca, rfl, hla⟩ := ha.shape
  obtain ⟨pb, cb, rfl, hlb⟩ := hb.shape
  obtain ⟨i0, hi, hz0, hz1, hz2⟩ := info_parts Try.infoI
  have hN : (plList a b).length = max a.length b.length := by simp [plList]
  have HN := hid hN
  clear hN
  go_enter Try.func9, Try.ntmps9
  go_wp2
  go_loopw [5, 6] (fun v i wr => ∃ (k : Nat) (u : Value), k ≤ max a.length b.length ∧ i = .int .i64 k ∧ v = u ∧ wr.ownsRow w.heap.size 3 1 u (codes ((plList a b).take k)).length ((codes ((plList a b).take k)).flatMap encI) ∧ Below w.heap.size w wr) (fun _ i _ => max a.length b.length - (intOf i).toNat)
  case atStart => exact ⟨0, _, Nat.zero_le _, rfl, rfl, World.ownsRow_nil _ _ _ _, Below.refl _ _⟩
  case round =>
    obtain ⟨k, u, hk, rfl, rfl, hrow, hB⟩ := hrel
    have hpl : (codes ((plList a b).take k)).length ≤ k := Nat.le_trans (codes_len _) (List.length_take_le _ _)
    by_cases hlt : k < max a.length b.length
    · have hk1 : (plList a b).take (k + 1) = (plList a b).take k ++ [(k, kindL a b k)] := by
        rw [List.take_succ_eq_append_getElem (by simp [plList]; omega)]; simp [plList]
      have Hk1 := hid hk1
      clear hk1
      obtain ⟨pu, cu, rfl, hu1, hu2⟩ := owns_shape hrow
      unfold maxLen at hu2
      by_cases h1 : b.length ≤ k
      · have hkd : kindL a b k = 1 := by simp [kindL, h1]
        have Hkd := hid hkd
        clear hkd
        have hlt' : k < a.length := by omega
        have hmx : b.length < a.length := by omega
        go_wp2_with (at_builtin; go_must (refine wpList_append_own _ rfl _ _ 27 rfl w.heap.size 3 i0 (.int .i64 0) 1 8 Try.underlying27 hi hz0 hz1 hz2 rfl (by decide) _ _ _ rfl (hrow.alloc _) ⟨wr.heap.size, 0, none⟩ 1 1 [.int .i64 (4 * k + 1)] rfl rfl (cell_one_new _ _ _) (by simp [Value.oneCell']) (by unfold maxLen; omega) (by omega) (by have := hB.size; simp; omega) ?_; intro v' w1 hown' hgrow _))
        have hB' : Below w.heap.size w (wr.alloc (.cells #[.int .i64 (4 * k + 1)] 3)) := hB.alloc hB.size _
        go_roundw
        case rel =>
          refine ⟨k + 1, _, by omega, by go_num, rfl, ?_, ?_⟩
          · rw [Hk1.out, codes_hit _ _ (by rw [Hkd.out]; simp), List.length_append, List.flatMap_append]
            simpa [encI, Hkd.out] using hown'
          · exact hB'.grown hgrow hB'.size (fun j e => by have := own_base hrow e; omega)
        case measure => simp [intOf]; omega
      · by_cases h2 : a.length ≤ k
        · have hkd : kindL a b k = 2 := by simp [kindL, h1, h2]
          have Hkd := hid hkd
          clear hkd
          have hlt' : k < b.length := by omega
          have hmx : a.length < b.length := by omega
          go_wp2_with (at_builtin; go_must (refine wpList_append_own _ rfl _ _ 27 rfl w.heap.size 3 i0 (.int .i64 0) 1 8 Try.underlying27 hi hz0 hz1 hz2 rfl (by decide) _ _ _ rfl (hrow.alloc _) ⟨wr.heap.size, 0, none⟩ 1 1 [.int .i64 (4 * k + 2)] rfl rfl (cell_one_new _ _ _) (by simp [Value.oneCell']) (by unfold maxLen; omega) (by omega) (by have := hB.size; simp; omega) ?_; intro v' w1 hown' hgrow _))
          have hB' : Below w.heap.size w (wr.alloc (.cells #[.int .i64 (4 * k + 2)] 3)) := hB.alloc hB.size _
          go_roundw
          case rel =>
            refine ⟨k + 1, _, by omega, by go_num, rfl, ?_, ?_⟩
            · rw [Hk1.out, codes_hit _ _ (by rw [Hkd.out]; simp), List.length_append, List.flatMap_append]
              simpa [encI, Hkd.out] using hown'
            · exact hB'.grown hgrow hB'.size (fun j e => by have := own_base hrow e; omega)
          case measure => simp [intOf]; omega
        · obtain ⟨bb, bo, bcap, eb, hb2, hb3, hb4⟩ := hb.open (by rintro rfl; simp at h1)
          obtain ⟨ab, ao, acap, ea, ha2, ha3, ha4⟩ := ha.open (by rintro rfl; simp at h2)
          cases eb; cases ea
          have Ha4 := hid ha4
          have Hb4 := hid hb4
          have la' := rangeAt_drewN (show wr.rangeAt _ _ _ from (Kept.of_below hB 0).range (ha4 k a[k] (by simp)))
          have lb' := rangeAt_drewN (show wr.rangeAt _ _ _ from (Kept.of_below hB 0).range (hb4 k b[k] (by simp)))
          have sa : (Try.prog.info? 25).map (·.size) = some (u8s a[k]).length := by rw [u8s_length, hx _ (List.getElem_mem _)]; kernel_rfl
          have sb : (Try.prog.info? 25).map (·.size) = some (u8s b[k]).length := by rw [u8s_length, hy _ (List.getElem_mem _)]; kernel_rfl
          have hq := fun w => run_neq_u8s (P := Try.prog) w (t := 25) (e := 5) (n := 32) Try.underlying25 Try.underlying5 (by kernel_rfl) a[k] b[k] (hx _ (List.getElem_mem _)) (hy _ (List.getElem_mem _))
          obtain ⟨d, hd⟩ : ∃ d : Bool, decide (a[k] = b[k]) = d := ⟨_, rfl⟩
          rw [hd] at hq
          have hkd : kindL a b k = if d then 0 else 3 := by
            have e1 : a[k]? = some a[k] := by simp
            have e2 : b[k]? = some b[k] := by simp
            rw [kindL, if_neg h1, if_neg h2, e1, e2, ← hd]; simp
          have Hkd := hid hkd
          clear hkd hd
          have k1 : (k : Int) < (b.length : Int) := by omega
          have k2 : (k : Int) < (a.length : Int) := by omega
          clear Ha4 Hb4
          by_cases hmx : a.length < b.length
          all_goals
            go_wp2
            refine wp_region_quiet_lit (by kernel_rfl) (by kernel_rfl) ?_
            repeat (quiet_step (fail))
            refine wpQuiet_load_mid rfl _ _ rfl _ _ rfl _ _ la' Try.underlying25 rfl sa ?_
            repeat (quiet_step (fail))
            refine wpQuiet_load_mid rfl _ _ rfl _ _ rfl _ _ lb' Try.underlying25 rfl sb ?_
            refine wpQuiet_binOp rfl _ _ _ _ _ rfl _ _ _ rfl rfl (fun w => run_eqGuard_agg w _ _ _ _ _ _ (by kernel_rfl)) hq ?_
            repeat (quiet_step (fail))
            refine wpQuiet_nil ?_
            rintro _ ⟨nq, rfl⟩
            cases d
            · go_wp2_with (at_builtin; go_must (refine wpList_append_own _ rfl _ _ 27 rfl w.heap.size 3 i0 (.int .i64 0) 1 8 Try.underlying27 hi hz0 hz1 hz2 rfl (by decide) _ _ _ rfl (((Kept.drewN 0 wr nq).owns hrow).alloc _) ⟨(wr.drewN nq).heap.size, 0, none⟩ 1 1 [.int .i64 (4 * k + 3)] rfl rfl (cell_one_new _ _ _) (by simp [Value.oneCell']) (by unfold maxLen; omega) (by omega) (by have := hB.size; simp; omega) ?_; intro v' w1 hown' hgrow _))
              have hB' : Below w.heap.size w ((wr.drewN nq).alloc (.cells #[.int .i64 (4 * k + 3)] 3)) := (hB.drewN nq).alloc hB.size _
              go_roundw
              case rel =>
                refine ⟨k + 1, _, by omega, by go_num, rfl, ?_, ?_⟩
                · rw [Hk1.out, codes_hit _ _ (by rw [Hkd.out]; simp), List.length_append, List.flatMap_append]
                  simpa [encI, Hkd.out] using hown'
                · exact hB'.grown hgrow hB'.size (fun j e => by have := own_base hrow e; omega)
              case measure => simp [intOf]; omega
            · go_wp2
              go_roundw
              case rel =>
                refine ⟨k + 1, _, by omega, by go_num, rfl, ?_, hB.drewN nq⟩
                rw [Hk1.out, codes_miss _ _ (by rw [Hkd.out]; simp)]
                exact (Kept.drewN 0 wr nq).owns hrow
              case measure => simp [intOf]; omega
    · have hl := sl_of_owns (enc := encI) (fun _ _ => rfl) hrow
      rw [List.take_of_length_le (by rw [HN.out]; omega)] at hl
      go_wp2
      all_goals go_ret
      all_goals exact ⟨_, rfl, hl, hB⟩
end Go.Proofs.Ytcjaeamfddhilaa
