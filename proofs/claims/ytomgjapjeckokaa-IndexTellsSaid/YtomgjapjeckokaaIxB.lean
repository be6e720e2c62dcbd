/- SHA-256: the walks of turned, constants, start. -/
import Derived.Test.YtomgjapjeckokaaIxA
namespace Go.Proofs.Ytomgjapjeckokaa
open Go.RowKit Go.Shelf Go.Lib

def turnW (x : W32) (l : List Nat) : W32 := l.foldl (fun a n => a ^^^ rotr x n) 0
theorem turnW_snoc (x : W32) (l : List Nat) (n : Nat) : turnW x (l ++ [n]) = turnW x l ^^^ rotr x n := by simp [turnW]
def encN (n : Nat) : List Value := [.int .i64 n]

set_option maxRecDepth 100000 in
set_option maxHeartbeats 1000000 in
theorem turned_any (x : W32) (l : List Nat) (v : Value) (w : World) (hl : ∀ n ∈ l, n = 2 ∨ n = 6 ∨ n = 7 ∨ n = 11 ∨ n = 13 ∨ n = 17 ∨ n = 18 ∨ n = 19 ∨ n = 22 ∨ n = 25) (hs : Sl w 1 encN v l) :
    Calls Try.prog 81 #[vW x, v] w fun e w' => e = .returned (vW (turnW x l)) ∧ w' = w := by
  obtain ⟨p, cap, rfl, hm⟩ := hs.shape
  unfold maxLen at hm
  unfold vW
  go_enter Try.func81, Try.ntmps81
  go_wp2_with (fail)
  go_loopw [5, 10] (fun av iv wr => ∃ k : Nat, k ≤ l.length ∧ iv = .int .i64 k ∧ av = .int .u32 ((turnW x (l.take k)).toNat : Int) ∧ wr = w) (fun _ iv _ => l.length - (RowKit.intOf iv).toNat)
  case atStart => exact ⟨0, Nat.zero_le _, rfl, rfl, rfl⟩
  case round =>
    obtain ⟨k, hk, rfl, rfl, rfl⟩ := hrel
    by_cases hk2 : k < l.length
    · obtain ⟨n, hn⟩ : ∃ n, l[k]? = some n := ⟨_, List.getElem?_eq_getElem hk2⟩
      have hkI : (k : Int) < (l.length : Int) := by omega
      obtain ⟨b, o, cap', he, h1, h2, hc⟩ := hs.open (by intro h; rw [h] at hk2; simp at hk2)
      simp only [Value.slice.injEq] at he
      obtain ⟨rfl, -, rfl⟩ := he
      have hcell : wr.cell? ⟨b, o + k, none⟩ = some (.int .i64 n) := by
        have := rangeAt_one (hc k n hn)
        rwa [Nat.mul_one] at this
      have htk : l.take (k + 1) = l.take k ++ [n] := by rw [List.take_add_one, hn]; rfl
      have hnm := hl n (List.mem_of_getElem? hn)
      have hng : -(n : Int) ≤ 0 := by omega
      have hnw : IntKind.i64.wrap (-(n : Int)) = -(n : Int) := by
        rcases hnm with rfl | rfl | rfl | rfl | rfl | rfl | rfl | rfl | rfl | rfl <;> rfl
      have cR := hid (fun W => rot_any x n hnm W)
      unfold vW at cR
      have hx := bits_xorW (turnW x (l.take k)) (rotr x n)
      rw [← turnW_snoc, ← htk] at hx
      clear hnm htk hc
      go_wp2_with (fail)
      refine (cR.out _).mono ?_
      rintro e w2 ⟨rfl, rfl⟩
      go_wp2_with (fail)
      exact ⟨⟨k + 1, by omega, by go_num, by first | rfl | trivial, by first | rfl | trivial⟩, by simp [RowKit.intOf]; omega⟩
    · obtain rfl : k = l.length := by omega
      rw [List.take_length]
      go_wp2_with (fail)
      go_ret
      exact ⟨rfl, rfl⟩
end Go.Proofs.Ytomgjapjeckokaa
