/- SHA-256: words turned (printed by gen_ixa.py). -/
import Derived.Test.YtomgjapjeckokaaApp
namespace Go.Proofs.Ytomgjapjeckokaa
open Go.RowKit Go.Shelf Go.Lib

abbrev W32 := BitVec 32
/-- turned right -/
def rotr (x : W32) (n : Nat) : W32 := x <<< (32 - n) ||| x >>> n
def vW (x : W32) : Value := .int .u32 (x.toNat : Int)
theorem ofInt_w (x : W32) : BitVec.ofInt 32 (x.toNat : Int) = x := by
  rw [BitVec.ofInt_natCast, BitVec.ofNat_toNat, BitVec.setWidth_eq]
theorem wrap_w (x : W32) : IntKind.u32.wrap (x.toNat : Int) = (x.toNat : Int) := by
  have := x.isLt
  simp [IntKind.wrap, IntKind.bits, IntKind.signed]
  omega
theorem bits_xorW (a b : W32) : bits .xor .u32 (a.toNat : Int) (b.toNat : Int) = ((a ^^^ b).toNat : Int) := by
  show IntKind.u32.wrap ((BitVec.ofInt 32 (a.toNat : Int) ^^^ BitVec.ofInt 32 (b.toNat : Int)).toNat : Int) = _
  rw [ofInt_w, ofInt_w]; exact wrap_w _
theorem bits_orW (a b : W32) : bits .or .u32 (a.toNat : Int) (b.toNat : Int) = ((a ||| b).toNat : Int) := by
  show IntKind.u32.wrap ((BitVec.ofInt 32 (a.toNat : Int) ||| BitVec.ofInt 32 (b.toNat : Int)).toNat : Int) = _
  rw [ofInt_w, ofInt_w]; exact wrap_w _
theorem bits_andW (a b : W32) : bits .and .u32 (a.toNat : Int) (b.toNat : Int) = ((a &&& b).toNat : Int) := by
  show IntKind.u32.wrap ((BitVec.ofInt 32 (a.toNat : Int) &&& BitVec.ofInt 32 (b.toNat : Int)).toNat : Int) = _
  rw [ofInt_w, ofInt_w]; exact wrap_w _
theorem addW (a b : W32) : ((a.toNat : Int) + (b.toNat : Int)) % 4294967296 = ((a + b).toNat : Int) := by
  rw [BitVec.toNat_add]; omega
theorem shrW (a : W32) (n : Nat) : (a.toNat : Int) / ((2 ^ n : Nat) : Int) = ((a >>> n).toNat : Int) := by
  rw [BitVec.toNat_ushiftRight, Nat.shiftRight_eq_div_pow]; exact (Int.natCast_ediv _ _).symm
theorem shlW (a : W32) (n : Nat) : (a.toNat : Int) * ((2 ^ n : Nat) : Int) % 4294967296 = ((a <<< n).toNat : Int) := by
  rw [BitVec.toNat_shiftLeft, Nat.shiftLeft_eq]
  rw [← Int.natCast_mul]; rfl
theorem rotW (x : W32) (n a b : Nat) (ha : a = 2 ^ (32 - n)) (hb : b = 2 ^ n) : bits .or .u32 ((x.toNat : Int) * (a : Int) % 4294967296) ((x.toNat : Int) / (b : Int)) = ((rotr x n).toNat : Int) := by
  subst ha hb
  rw [shlW, shrW, bits_orW]; rfl

set_option maxRecDepth 100000 in
set_option maxHeartbeats 1000000 in
theorem rot_any (x : W32) (n : Nat) (h : n = 2 ∨ n = 6 ∨ n = 7 ∨ n = 11 ∨ n = 13 ∨ n = 17 ∨ n = 18 ∨ n = 19 ∨ n = 22 ∨ n = 25) (w : World) :
    Calls Try.prog 84 #[vW x, .int .i64 (-(n : Int))] w fun e w' => e = .returned (vW (rotr x n)) ∧ w' = w := by
  unfold vW
  rcases h with rfl | rfl | rfl | rfl | rfl | rfl | rfl | rfl | rfl | rfl
  · have hb : bits .and .u64 (IntKind.u64.wrap (-2)) 31 = 30 := by decide
    go_enter Try.func84, Try.ntmps84
    go_wp2_with (fail)
    go_ret
    exact ⟨by rw [← rotW x 2 1073741824 4 rfl rfl]; rfl, rfl⟩
  · have hb : bits .and .u64 (IntKind.u64.wrap (-6)) 31 = 26 := by decide
    go_enter Try.func84, Try.ntmps84
    go_wp2_with (fail)
    go_ret
    exact ⟨by rw [← rotW x 6 67108864 64 rfl rfl]; rfl, rfl⟩
  · have hb : bits .and .u64 (IntKind.u64.wrap (-7)) 31 = 25 := by decide
    go_enter Try.func84, Try.ntmps84
    go_wp2_with (fail)
    go_ret
    exact ⟨by rw [← rotW x 7 33554432 128 rfl rfl]; rfl, rfl⟩
  · have hb : bits .and .u64 (IntKind.u64.wrap (-11)) 31 = 21 := by decide
    go_enter Try.func84, Try.ntmps84
    go_wp2_with (fail)
    go_ret
    exact ⟨by rw [← rotW x 11 2097152 2048 rfl rfl]; rfl, rfl⟩
  · have hb : bits .and .u64 (IntKind.u64.wrap (-13)) 31 = 19 := by decide
    go_enter Try.func84, Try.ntmps84
    go_wp2_with (fail)
    go_ret
    exact ⟨by rw [← rotW x 13 524288 8192 rfl rfl]; rfl, rfl⟩
  · have hb : bits .and .u64 (IntKind.u64.wrap (-17)) 31 = 15 := by decide
    go_enter Try.func84, Try.ntmps84
    go_wp2_with (fail)
    go_ret
    exact ⟨by rw [← rotW x 17 32768 131072 rfl rfl]; rfl, rfl⟩
  · have hb : bits .and .u64 (IntKind.u64.wrap (-18)) 31 = 14 := by decide
    go_enter Try.func84, Try.ntmps84
    go_wp2_with (fail)
    go_ret
    exact ⟨by rw [← rotW x 18 16384 262144 rfl rfl]; rfl, rfl⟩
  · have hb : bits .and .u64 (IntKind.u64.wrap (-19)) 31 = 13 := by decide
    go_enter Try.func84, Try.ntmps84
    go_wp2_with (fail)
    go_ret
    exact ⟨by rw [← rotW x 19 8192 524288 rfl rfl]; rfl, rfl⟩
  · have hb : bits .and .u64 (IntKind.u64.wrap (-22)) 31 = 10 := by decide
    go_enter Try.func84, Try.ntmps84
    go_wp2_with (fail)
    go_ret
    exact ⟨by rw [← rotW x 22 1024 4194304 rfl rfl]; rfl, rfl⟩
  · have hb : bits .and .u64 (IntKind.u64.wrap (-25)) 31 = 7 := by decide
    go_enter Try.func84, Try.ntmps84
    go_wp2_with (fail)
    go_ret
    exact ⟨by rw [← rotW x 25 128 33554432 rfl rfl]; rfl, rfl⟩
end Go.Proofs.Ytomgjapjeckokaa
