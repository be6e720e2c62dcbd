/- The walks of keep's comparisons of slices of rows (by gen_keep.py). -/
import Derived.Test.YtcjaeamfddhilaaKeep
namespace Go.Proofs.Ytcjaeamfddhilaa
open Go.RowKit

set_option maxHeartbeats 400000 in
theorem Digests_any (w : World) (va vb : Value) (a b : List (List Int)) (ha : Sl w 32 u8s va a) (hb : Sl w 32 u8s vb b) (hx : ∀ x ∈ a, x.length = 32) (hy : ∀ x ∈ b, x.length = 32) :
    Calls Try.prog 13 #[va, vb] w fun e w' => e = .returned (.bool (decide (a = b))) ∧ ∃ n, w' = w.drewN n := by
  by_cases hl : a.length = b.length
  · by_cases h0 : a = []
    · subst h0
      obtain ⟨pa, ca, rfl, _⟩ := ha.shape
      obtain ⟨pb, cb, rfl, _⟩ := hb.shape
      obtain rfl : b = [] := by simpa using hl.symm
      go_enter Try.func13, Try.ntmps13
      go_wp2
      go_loopw [4, 5] (fun r i wr => r = .bool false ∧ i = .int .i64 0 ∧ wr = w) (fun _ _ _ => 0)
      case atStart => exact ⟨rfl, rfl, rfl⟩
      case round =>
        obtain ⟨rfl, rfl, rfl⟩ := hrel
        go_wp2
        go_ret
        exact ⟨ret_bool (by simp), 0, rfl⟩
    · obtain ⟨ab, ao, ac, rfl, ha1, ha2, ha3⟩ := ha.open h0
      obtain ⟨bb, bo, bc, rfl, hb1, hb2, hb3⟩ := hb.open (by rintro rfl; simp at hl; exact h0 hl)
      unfold maxLen at ha2 hb2
      have hl' : (a.length : Int) = b.length := by omega
      have hne : (((a.length : Int)) != (b.length : Int)) = false := by simp [hl]
      have Hl := hid hl
      clear hl hl' h0
      go_enter Try.func13, Try.ntmps13
      go_wp2
      go_loopw [4, 5] (fun r i wr => ∃ k n : Nat, r = .bool false ∧ k ≤ a.length ∧ i = .int .i64 k ∧ a.take k = b.take k ∧ wr = w.drewN n) (fun _ i _ => a.length - (intOf i).toNat)
      case atStart => exact ⟨0, 0, rfl, Nat.zero_le _, rfl, rfl, rfl⟩
      case round =>
        obtain ⟨k, n, rfl, hk, rfl, ht, rfl⟩ := hrel
        have Ht := hid ht
        clear ht
        by_cases hlt : k < a.length
        · have hlt' : k < b.length := by rw [← Hl.out]; exact hlt
          have c1 := rangeAt_drewN2 n (ha3 k a[k] (by simp))
          have c2 := rangeAt_drewN2 n (hb3 k b[k] (by simp))
          have hts := hid (take_succ_eq hlt hlt')
          have hle1 := hx a[k] (List.getElem_mem _)
          have hle2 := hy b[k] (List.getElem_mem _)
          have sx : (Try.prog.info? 25).map (·.size) = some (u8s a[k]).length := by rw [u8s_length, hle1]; kernel_rfl
          have sy : (Try.prog.info? 25).map (·.size) = some (u8s b[k]).length := by rw [u8s_length, hle2]; kernel_rfl
          have hq := fun w => run_neq_u8s (P := Try.prog) w Try.underlying25 Try.underlying5 (by kernel_rfl) a[k] b[k] hle1 hle2
          clear ha3 hb3 hle1 hle2
          generalize a[k] = x at *
          generalize b[k] = y at *
          obtain ⟨d, hd⟩ : ∃ d : Bool, decide (x = y) = d := ⟨_, rfl⟩
          rw [hd] at hq
          have Hd := hid hd
          clear hd
          have k1 : (k : Int) < (b.length : Int) := by omega
          have k2 : (k : Int) < (a.length : Int) := by omega
          go_wp2
          refine wp_region_quiet_lit (by kernel_rfl) (by kernel_rfl) ?_
          repeat (quiet_step (fail))
          refine wpQuiet_load_mid rfl _ _ rfl _ _ rfl _ _ c1 Try.underlying25 rfl sx ?_
          repeat (quiet_step (fail))
          refine wpQuiet_load_mid rfl _ _ rfl _ _ rfl _ _ c2 Try.underlying25 rfl sy ?_
          refine wpQuiet_binOp rfl _ _ _ _ _ rfl _ _ _ rfl rfl (fun w => run_eqGuard_agg w _ _ _ _ _ _ (by kernel_rfl)) hq ?_
          repeat (quiet_step (fail))
          refine wpQuiet_nil ?_
          rintro _ ⟨nq, rfl⟩
          cases d
          · go_wp2
            go_ret
            refine ⟨ret_bool ?_, _, by first | rfl | exact World.drewN_drewN ..⟩
            have : a ≠ b := by rintro rfl; have := Hd.out; simp at this; exact this (hts.out.1 rfl).2
            simpa using this
          · go_wp2
            go_roundw
            case rel => exact ⟨k + 1, _, rfl, by omega, by go_num, hts.out.2 ⟨Ht.out, by simpa using Hd.out⟩, by first | rfl | exact World.drewN_drewN ..⟩
            case measure => simp [intOf]; omega
        · go_wp2
          go_ret
          refine ⟨ret_bool ?_, _, rfl⟩
          have : k = a.length := by omega
          subst this
          have h := Ht.out
          rw [List.take_of_length_le (Nat.le_refl _), List.take_of_length_le (by have := Hl.out; omega)] at h
          simpa using h
  · obtain ⟨pa, ca, rfl, _⟩ := ha.shape
    obtain ⟨pb, cb, rfl, _⟩ := hb.shape
    have hne : (((a.length : Int)) != (b.length : Int)) = true := by simp; omega
    go_enter Try.func13, Try.ntmps13
    go_wp2
    go_ret
    exact ⟨ret_bool (by simp; rintro rfl; exact hl rfl), 0, rfl⟩

theorem Digests_eq (w : World) (va vb : Value) (a b : List (List Int)) (ha : Sl w 32 u8s va a) (hb : Sl w 32 u8s vb b) (hx : ∀ x ∈ a, x.length = 32) (hy : ∀ x ∈ b, x.length = 32) (h : a = b) :
    Calls Try.prog 13 #[va, vb] w fun e w' => e = .returned (.bool true) ∧ ∃ n, w' = w.drewN n :=
  (Digests_any w va vb a b ha hb hx hy).mono fun e w' ⟨he, hw⟩ => ⟨by rw [he]; simp [h], hw⟩



end Go.Proofs.Ytcjaeamfddhilaa
