/- The walks of index's leaves and Size. -/
import Derived.Test.YtomgjapjeckokaaIxJ
namespace Go.Proofs.Ytomgjapjeckokaa
open Go.RowKit Go.Shelf Go.Lib

def sizeS (n : Int) : Int := if n ≤ 0 then 0 else (n - 1) / 3 + 2

set_option maxRecDepth 100000 in
set_option maxHeartbeats 400000 in
theorem leaves_any (n : Int) (w : World) (h1 : 0 < n) (h2 : n ≤ 9223372036854775807) :
    Calls Try.prog 40 #[.int .i64 n] w fun e w' => e = .returned (.int .i64 ((n - 1) / 3 + 1)) ∧ w' = w := by
  have hw : IntKind.i64.wrap (n - 1) = n - 1 := by rw [IntKind.wrap_i64]; omega
  have hq : (n - 1).tdiv 3 = (n - 1) / 3 := Int.tdiv_eq_ediv_of_nonneg (by omega)
  have hw1 : IntKind.i64.wrap ((n - 1) / 3) = (n - 1) / 3 := by rw [IntKind.wrap_i64]; omega
  have hw2 : IntKind.i64.wrap ((n - 1) / 3 + 1) = (n - 1) / 3 + 1 := by rw [IntKind.wrap_i64]; omega
  go_enter Try.func40, Try.ntmps40
  go_wp2_with (fail)
  go_ret
  exact ⟨rfl, rfl⟩
set_option maxRecDepth 100000 in
set_option maxHeartbeats 400000 in
theorem Size_any (n : Int) (w : World) (h2 : n ≤ 9223372036854775807) :
    Calls Try.prog 18 #[.int .i64 n] w fun e w' => e = .returned (.int .i64 (sizeS n)) ∧ w' = w := by
  by_cases h : n ≤ 0
  · have e : sizeS n = 0 := by unfold sizeS; rw [if_pos h]
    rw [e]
    go_enter Try.func18, Try.ntmps18
    go_wp2_with (fail)
    go_ret
    exact ⟨rfl, rfl⟩
  · obtain ⟨q, hq⟩ : ∃ q, (n - 1) / 3 + 1 = q := ⟨_, rfl⟩
    have e : sizeS n = q + 1 := by unfold sizeS; rw [if_neg h]; omega
    have cL := hid (leaves_any n w (by omega) h2)
    rw [hq] at cL
    have hw : IntKind.i64.wrap (q + 1) = q + 1 := by rw [IntKind.wrap_i64]; omega
    rw [e]
    clear hq e
    go_enter Try.func18, Try.ntmps18
    go_wp2_with (fail)
    refine cL.out.mono ?_
    rintro e w2 ⟨rfl, rfl⟩
    go_wp2_with (fail)
    go_ret
    exact ⟨rfl, rfl⟩

/-- is a block used? -/
def bitB (v : UInt8) (k : Nat) : Bool := v.toNat / 2 ^ k % 2 = 1
def hasM (m : List UInt8) (b : Int) : Bool := decide (b < 0) || decide (128 ≤ b) || bitB (m.getD (b.toNat / 8) 0) (b.toNat % 8)
theorem bit_and (v : UInt8) (k : Nat) : bits .and .u8 ((v.toNat : Int) / ((2 ^ k : Nat) : Int)) 1 = ((v.toNat / 2 ^ k % 2 : Nat) : Int) := by
  have h := v.toNat_lt
  have hx : (v.toNat : Int) / ((2 ^ k : Nat) : Int) = ((v.toNat / 2 ^ k : Nat) : Int) := (Int.natCast_ediv _ _).symm
  rw [hx]
  obtain ⟨x, hx2⟩ : ∃ x, v.toNat / 2 ^ k = x := ⟨_, rfl⟩
  have hlt : x < 256 := by rw [← hx2]; exact Nat.lt_of_le_of_lt (Nat.div_le_self _ _) h
  rw [hx2]
  have : ∀ x, x < 256 → bits .and .u8 ((x : Nat) : Int) 1 = ((x % 2 : Nat) : Int) := by decide +kernel
  exact this x hlt

theorem bit_is (v : UInt8) (k : Nat) : (bits .and .u8 ((v.toNat : Int) / ((2 ^ k : Nat) : Int)) 1 == 1) = bitB v k := by
  rw [bit_and]
  unfold bitB
  rw [Bool.eq_iff_iff, beq_iff_eq, decide_eq_true_iff]
  omega

set_option maxRecDepth 100000 in
set_option maxHeartbeats 1000000 in
theorem Has_any (m : List UInt8) (b : Int) (w : World) (hm : m.length = 16) :
    Calls Try.prog 53 #[.agg (rowU m), .int .i64 b] w fun e w' => e = .returned (.bool (hasM m b)) ∧ Below w.heap.size w w' := by
  have g1 := World.alloc_heap_new w (.cells (rowU m) 75)
  have B1 : Below w.heap.size w (w.alloc (.cells (rowU m) 75)) := (Below.refl _ w).alloc (Nat.le_refl _) _
  by_cases h0 : b < 0
  · have e : hasM m b = true := by unfold hasM; simp [h0]
    rw [e]
    go_enter Try.func53, Try.ntmps53
    go_wp2_with (fail)
    go_ret
    exact ⟨rfl, B1⟩
  · by_cases h8 : 128 ≤ b
    · have e : hasM m b = true := by unfold hasM; simp [h8]
      rw [e]
      go_enter Try.func53, Try.ntmps53
      go_wp2_with (fail)
      go_ret
      exact ⟨rfl, B1⟩
    · obtain ⟨q, k, hk, rfl⟩ : ∃ q k : Nat, k < 8 ∧ b = ((8 * q + k : Nat) : Int) := ⟨b.toNat / 8, b.toNat % 8, by omega, by omega⟩
      have hq : q < 16 := by omega
      obtain ⟨v, hv⟩ : ∃ v, m[q]? = some v := ⟨_, List.getElem?_eq_getElem (by omega)⟩
      have e : hasM m ((8 * q + k : Nat) : Int) = bitB v k := by
        unfold hasM
        rw [Int.toNat_natCast, show (8 * q + k) / 8 = q by omega, show (8 * q + k) % 8 = k by omega, List.getD_eq_getElem?_getD, hv]
        have h1 : ¬ ((8 * q + k : Nat) : Int) < 0 := h0
        have h2 : ¬ (128 : Int) ≤ ((8 * q + k : Nat) : Int) := h8
        simp
        omega
      rw [e]
      clear e
      have hd : (((8 * q + k : Nat) : Int)).tdiv 8 = (q : Int) := by rw [Int.tdiv_eq_ediv_of_nonneg (by omega)]; omega
      have hr : (((8 * q + k : Nat) : Int)).tmod 8 = (k : Int) := by rw [Int.tmod_eq_emod_of_nonneg (by omega)]; omega
      have hqI : (q : Int) < 16 := by omega
      have c1 : (w.alloc (.cells (rowU m) 75)).cell? ⟨w.heap.size, q, none⟩ = some (.int .u8 v.toNat) := cell_blk g1 (rowU_at hv)
      obtain ⟨X, hX⟩ : ∃ X : Int, ((8 * q + k : Nat) : Int) = X := ⟨_, rfl⟩
      rw [hX] at hd hr h0 h8 ⊢
      have hwq : IntKind.i64.wrap (q : Int) = (q : Int) := by rw [IntKind.wrap_i64]; omega
      clear hX g1
      have h7 : k = 0 ∨ k = 1 ∨ k = 2 ∨ k = 3 ∨ k = 4 ∨ k = 5 ∨ k = 6 ∨ k = 7 := by omega
      rcases h7 with rfl | rfl | rfl | rfl | rfl | rfl | rfl | rfl
      · have hb : (bits .and .u8 (v.toNat : Int) 1 == 1) = bitB v 0 := by have h := bit_is v 0; rwa [show (v.toNat : Int) / ((2 ^ 0 : Nat) : Int) = (v.toNat : Int) by simp] at h
        go_enter Try.func53, Try.ntmps53
        go_wp2_with (fail)
        go_ret
        exact ⟨rfl, B1⟩
      · have hb : (bits .and .u8 ((v.toNat : Int) / 2) 1 == 1) = bitB v 1 := bit_is v 1
        go_enter Try.func53, Try.ntmps53
        go_wp2_with (fail)
        go_ret
        exact ⟨rfl, B1⟩
      · have hb : (bits .and .u8 ((v.toNat : Int) / 4) 1 == 1) = bitB v 2 := bit_is v 2
        go_enter Try.func53, Try.ntmps53
        go_wp2_with (fail)
        go_ret
        exact ⟨rfl, B1⟩
      · have hb : (bits .and .u8 ((v.toNat : Int) / 8) 1 == 1) = bitB v 3 := bit_is v 3
        go_enter Try.func53, Try.ntmps53
        go_wp2_with (fail)
        go_ret
        exact ⟨rfl, B1⟩
      · have hb : (bits .and .u8 ((v.toNat : Int) / 16) 1 == 1) = bitB v 4 := bit_is v 4
        go_enter Try.func53, Try.ntmps53
        go_wp2_with (fail)
        go_ret
        exact ⟨rfl, B1⟩
      · have hb : (bits .and .u8 ((v.toNat : Int) / 32) 1 == 1) = bitB v 5 := bit_is v 5
        go_enter Try.func53, Try.ntmps53
        go_wp2_with (fail)
        go_ret
        exact ⟨rfl, B1⟩
      · have hb : (bits .and .u8 ((v.toNat : Int) / 64) 1 == 1) = bitB v 6 := bit_is v 6
        go_enter Try.func53, Try.ntmps53
        go_wp2_with (fail)
        go_ret
        exact ⟨rfl, B1⟩
      · have hb : (bits .and .u8 ((v.toNat : Int) / 128) 1 == 1) = bitB v 7 := bit_is v 7
        go_enter Try.func53, Try.ntmps53
        go_wp2_with (fail)
        go_ret
        exact ⟨rfl, B1⟩
end Go.Proofs.Ytomgjapjeckokaa
