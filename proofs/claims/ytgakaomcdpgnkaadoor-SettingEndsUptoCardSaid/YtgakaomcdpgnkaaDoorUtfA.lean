/- The walks of utf's and the reference's small functions (by gen_utfa.py). -/
import Derived.Test.YtgakaomcdpgnkaaDoorLib
namespace Go.Proofs.YtgakaomcdpgnkaaDoor
open Go.RowKit

def lower (n : Int) : Int := if 65 ≤ n ∧ n ≤ 90 then n + 32 else n
def letter (n : Int) : Bool := decide (97 ≤ lower n ∧ lower n ≤ 122)
theorem lower_bd {n : Int} (h1 : -9223372036854775808 ≤ n) (h2 : n ≤ 9223372036854775807) : -9223372036854775808 ≤ lower n ∧ lower n ≤ 9223372036854775807 := by unfold lower; split <;> omega

set_option maxHeartbeats 400000 in
theorem Lower_any (n : Int) (w : World) (h1 : -9223372036854775808 ≤ n) (h2 : n ≤ 9223372036854775807) :
    Calls Tryd.prog 49 #[.int .i64 n] w fun e w' => e = .returned (.int .i64 (lower n)) ∧ w = w' := by
  by_cases a : 65 ≤ n
  · by_cases b : n ≤ 90
    · go_enter Tryd.func49, Tryd.ntmps49
      go_wp2
      all_goals go_ret
      all_goals exact ⟨ret_int (by unfold lower; split <;> omega), rfl⟩
    · go_enter Tryd.func49, Tryd.ntmps49
      go_wp2
      all_goals go_ret
      all_goals exact ⟨ret_int (by unfold lower; split <;> omega), rfl⟩
  · go_enter Tryd.func49, Tryd.ntmps49
    go_wp2
    all_goals go_ret
    all_goals exact ⟨ret_int (by unfold lower; split <;> omega), rfl⟩

set_option maxHeartbeats 400000 in
theorem RLower_any (n : Int) (w : World) (h1 : -9223372036854775808 ≤ n) (h2 : n ≤ 9223372036854775807) :
    Calls Tryd.prog 23 #[.int .i64 n] w fun e w' => e = .returned (.int .i64 (lower n)) ∧ w = w' := by
  by_cases a : 65 ≤ n
  · by_cases b : n ≤ 90
    · go_enter Tryd.func23, Tryd.ntmps23
      go_wp2
      all_goals go_ret
      all_goals exact ⟨ret_int (by unfold lower; split <;> omega), rfl⟩
    · go_enter Tryd.func23, Tryd.ntmps23
      go_wp2
      all_goals go_ret
      all_goals exact ⟨ret_int (by unfold lower; split <;> omega), rfl⟩
  · go_enter Tryd.func23, Tryd.ntmps23
    go_wp2
    all_goals go_ret
    all_goals exact ⟨ret_int (by unfold lower; split <;> omega), rfl⟩

set_option maxHeartbeats 400000 in
theorem Letter_any (n : Int) (w : World) (h1 : -9223372036854775808 ≤ n) (h2 : n ≤ 9223372036854775807) :
    Calls Tryd.prog 48 #[.int .i64 n] w fun e w' => e = .returned (.bool (letter n)) ∧ w = w' := by
  have hx : ∀ x : Int, lower n = x → letter n = decide (97 ≤ x ∧ x ≤ 122) := fun x hx => by simp only [letter, hx]
  have hc : ∀ w, Calls Tryd.prog 49 #[.int .i64 n] w fun e w' => e = .returned (.int .i64 (lower n)) ∧ w = w' := fun w => Lower_any n w h1 h2
  obtain ⟨x, hl⟩ : ∃ x, lower n = x := ⟨_, rfl⟩
  have hr := hx x hl
  rw [hl] at hc
  rw [hr]
  have HC := hid hc
  clear hr hx hl hc
  by_cases a : 97 ≤ x
  · by_cases b : x ≤ 122
    · go_enter Tryd.func48, Tryd.ntmps48
      go_wp2_with (go_at_call 49; refine (HC.out _).mono ?_; rintro e w' ⟨rfl, rfl⟩)
      go_ret
      exact ⟨ret_bool (by simp [a, b]), rfl⟩
    · go_enter Tryd.func48, Tryd.ntmps48
      go_wp2_with (go_at_call 49; refine (HC.out _).mono ?_; rintro e w' ⟨rfl, rfl⟩)
      go_ret
      exact ⟨ret_bool (by simp; omega), rfl⟩
  · go_enter Tryd.func48, Tryd.ntmps48
    go_wp2_with (go_at_call 49; refine (HC.out _).mono ?_; rintro e w' ⟨rfl, rfl⟩)
    go_ret
    exact ⟨ret_bool (by simp; omega), rfl⟩

set_option maxHeartbeats 400000 in
theorem RLetter_any (n : Int) (w : World) (h1 : -9223372036854775808 ≤ n) (h2 : n ≤ 9223372036854775807) :
    Calls Tryd.prog 37 #[.int .i64 n] w fun e w' => e = .returned (.bool (letter n)) ∧ w = w' := by
  have hx : ∀ x : Int, lower n = x → letter n = decide (97 ≤ x ∧ x ≤ 122) := fun x hx => by simp only [letter, hx]
  have hc : ∀ w, Calls Tryd.prog 23 #[.int .i64 n] w fun e w' => e = .returned (.int .i64 (lower n)) ∧ w = w' := fun w => RLower_any n w h1 h2
  obtain ⟨x, hl⟩ : ∃ x, lower n = x := ⟨_, rfl⟩
  have hr := hx x hl
  rw [hl] at hc
  rw [hr]
  have HC := hid hc
  clear hr hx hl hc
  by_cases a : 97 ≤ x
  · by_cases b : x ≤ 122
    · go_enter Tryd.func37, Tryd.ntmps37
      go_wp2_with (go_at_call 23; refine (HC.out _).mono ?_; rintro e w' ⟨rfl, rfl⟩)
      go_ret
      exact ⟨ret_bool (by simp [a, b]), rfl⟩
    · go_enter Tryd.func37, Tryd.ntmps37
      go_wp2_with (go_at_call 23; refine (HC.out _).mono ?_; rintro e w' ⟨rfl, rfl⟩)
      go_ret
      exact ⟨ret_bool (by simp; omega), rfl⟩
  · go_enter Tryd.func37, Tryd.ntmps37
    go_wp2_with (go_at_call 23; refine (HC.out _).mono ?_; rintro e w' ⟨rfl, rfl⟩)
    go_ret
    exact ⟨ret_bool (by simp; omega), rfl⟩
end Go.Proofs.YtgakaomcdpgnkaaDoor
