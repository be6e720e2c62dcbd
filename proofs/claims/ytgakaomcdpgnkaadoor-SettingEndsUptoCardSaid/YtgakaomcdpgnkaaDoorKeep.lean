/- The walks of keep's comparisons. -/
import Derived.Test.YtgakaomcdpgnkaaDoorLib
namespace Go.Proofs.YtgakaomcdpgnkaaDoor
open Go.RowKit

theorem take_succ_eq {α : Type} [DecidableEq α] {a b : List α} {k : Nat} (ha : k < a.length) (hb : k < b.length) :
    a.take (k + 1) = b.take (k + 1) ↔ a.take k = b.take k ∧ a[k] = b[k] := by
  rw [List.take_succ_eq_append_getElem ha, List.take_succ_eq_append_getElem hb]
  constructor
  · intro h
    have := List.append_inj h (by simp; omega)
    exact ⟨this.1, by simpa using this.2⟩
  · rintro ⟨h1, h2⟩; rw [h1, h2]

set_option maxHeartbeats 400000 in
theorem Ints_any (w : World) (va vb : Value) (a b : List Int) (ha : Sl w 1 encI va a) (hb : Sl w 1 encI vb b) :
    Calls Tryd.prog 17 #[va, vb] w fun e w' => e = .returned (.bool (decide (a = b))) ∧ ∃ n, w' = w.drewN n := by
  by_cases hl : a.length = b.length
  · by_cases h0 : a = []
    · subst h0
      obtain ⟨pa, ca, rfl, _⟩ := ha.shape
      obtain ⟨pb, cb, rfl, _⟩ := hb.shape
      obtain rfl : b = [] := by simpa using hl.symm
      go_enter Tryd.func17, Tryd.ntmps17
      go_wp2
      go_loopw [4, 5] (fun r i wr => r = .bool false ∧ i = .int .i64 0 ∧ wr = w) (fun _ _ _ => 0)
      case atStart => exact ⟨rfl, rfl, rfl⟩
      case round =>
        obtain ⟨rfl, rfl, rfl⟩ := hrel
        go_wp2
        go_ret
        exact ⟨ret_bool (by simp), 0, rfl⟩
    · obtain ⟨ab, ao, ac, rfl, ha1, ha2, ha3⟩ := ha.open h0
      obtain ⟨bb, bo, bc, rfl, hb1, hb2, hb3⟩ := hb.open (by rintro rfl; simp at hl; exact h0 hl)
      unfold maxLen at ha2 hb2
      have hl' : (a.length : Int) = b.length := by omega
      have hne : (((a.length : Int)) != (b.length : Int)) = false := by simp [hl]
      have Hl := hid hl
      clear hl hl' h0
      go_enter Tryd.func17, Tryd.ntmps17
      go_wp2
      go_loopw [4, 5] (fun r i wr => ∃ k n : Nat, r = .bool false ∧ k ≤ a.length ∧ i = .int .i64 k ∧ a.take k = b.take k ∧ wr = w.drewN n) (fun _ i _ => a.length - (intOf i).toNat)
      case atStart => exact ⟨0, 0, rfl, Nat.zero_le _, rfl, rfl, rfl⟩
      case round =>
        obtain ⟨k, n, rfl, hk, rfl, ht, rfl⟩ := hrel
        have Ht := hid ht
        clear ht
        by_cases hlt : k < a.length
        · have hlt' : k < b.length := by rw [← Hl.out]; exact hlt
          have c1 := rangeAt_one (ha3 k a[k] (by simp))
          have c2 := rangeAt_one (hb3 k b[k] (by simp))
          simp only [Nat.mul_one] at c1 c2
          have hts := hid (take_succ_eq hlt hlt')
          have Hal := hid ha3
          have Hbl := hid hb3
          clear ha3 hb3
          generalize a[k] = x at *
          generalize b[k] = y at *
          by_cases hxy : x = y
          · subst hxy
            have q : (x != x) = false := by simp
            have k1 : (k : Int) < (b.length : Int) := by omega
            have k2 : (k : Int) < (a.length : Int) := by omega
            go_wp2
            go_quiet (fail)
            go_wp2
            go_roundw
            case rel => exact ⟨k + 1, _, rfl, by omega, by go_num, hts.out.2 ⟨Ht.out, by trivial⟩, by first | rfl | exact World.drewN_drewN ..⟩
            case measure => simp [intOf]; omega
          · have q : (x != y) = true := by simpa using hxy
            have k1 : (k : Int) < (b.length : Int) := by omega
            have k2 : (k : Int) < (a.length : Int) := by omega
            go_wp2
            go_quiet (fail)
            go_wp2
            go_ret
            refine ⟨ret_bool ?_, _, by first | rfl | exact World.drewN_drewN ..⟩
            have : a ≠ b := by rintro rfl; exact hxy (hts.out.1 rfl).2
            simpa using this
        · go_wp2
          go_ret
          refine ⟨ret_bool ?_, _, rfl⟩
          have : k = a.length := by omega
          subst this
          have h := Ht.out
          rw [List.take_of_length_le (Nat.le_refl _), List.take_of_length_le (by have := Hl.out; omega)] at h
          simpa using h
  · obtain ⟨pa, ca, rfl, _⟩ := ha.shape
    obtain ⟨pb, cb, rfl, _⟩ := hb.shape
    have hne : (((a.length : Int)) != (b.length : Int)) = true := by simp; omega
    go_enter Tryd.func17, Tryd.ntmps17
    go_wp2
    go_ret
    exact ⟨ret_bool (by simp; rintro rfl; exact hl rfl), 0, rfl⟩
theorem Ints_eq (w : World) (va vb : Value) (a b : List Int) (ha : Sl w 1 encI va a) (hb : Sl w 1 encI vb b) (h : a = b) :
    Calls Tryd.prog 17 #[va, vb] w fun e w' => e = .returned (.bool true) ∧ ∃ n, w' = w.drewN n :=
  (Ints_any w va vb a b ha hb).mono fun e w' ⟨he, hw⟩ => ⟨by rw [he]; simp [h], hw⟩
end Go.Proofs.YtgakaomcdpgnkaaDoor
