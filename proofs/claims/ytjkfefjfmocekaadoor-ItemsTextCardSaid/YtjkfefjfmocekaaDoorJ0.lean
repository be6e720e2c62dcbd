/- strings.HasPrefix, and a string's iterator in any world. The walks of utf's and the reference's small functions (by gen_utfa.py). -/
import Derived.Test.YtjkfefjfmocekaaDoorHypT
import Derived.Laws.RangeString
import Derived.Test.YtjkfefjfmocekaaDoorUtfB
import Derived.Test.YtjkfefjfmocekaaDoorLib
namespace Go.Proofs.YtjkfefjfmocekaaDoor
open Go.RowKit Go.Shelf
attribute [local go_sem] Oper.semAt_some

theorem next_ascii {P : Program} {w : World} {L : Nat} {s : ByteArray} {pos : Nat} (hL : w.heap[L]? = some (.stringIter s pos)) (ty : TypeId) (h : pos < s.size) (ha : (s[pos]'h).toNat < 128) :
    (Instr.next (.pointer (some ⟨L, 0, none⟩)) true ty).run P w = .ok (.tuple #[.bool true, .int .i64 pos, .int .i32 (s[pos]'h).toNat]) (w.putObj L (.stringIter s (pos + 1))) := by
  simp only [Instr.next, getObj, setObj, Sem.run_bind, Sem.run, hL, Result.andThen, h, if_true, decode_ascii s pos h ha]
  simp [goInt, World.putObj]
theorem next_end {P : Program} {w : World} {L : Nat} {s : ByteArray} {pos : Nat} (hL : w.heap[L]? = some (.stringIter s pos)) (ty : TypeId) (h : ¬ pos < s.size) :
    (Instr.next (.pointer (some ⟨L, 0, none⟩)) true ty).run P w = .ok (.tuple #[.bool false]) w := by
  simp [Instr.next, getObj, Sem.run, hL, h]

theorem prefix_bytes (s t : ByteArray) (h : t.size ≤ s.size) : ((s.extract 0 t.size).toList == t.toList) = t.data.toList.isPrefixOf s.data.toList := by
  rw [Bool.eq_iff_iff, List.isPrefixOf_iff_prefix, beq_iff_eq, List.prefix_iff_eq_take, ByteArray.toList_eq, ByteArray.toList_eq]
  have e1 : (s.extract 0 t.size).data.toList = s.data.toList.take t.data.toList.length := by
    simp [ByteArray.data_extract, Array.toList_extract]
  rw [e1]
  exact eq_comm

theorem HasPrefix_any (s t : ByteArray) (w : World) (hs : s.size ≤ 1000000) (ht : t.size ≤ 1000000) :
    Calls Tryd.prog 42 #[.string s, .string t] w fun e w' => e = .returned (.bool (t.data.toList.isPrefixOf s.data.toList)) ∧ w' = w := by
  have hp := prefix_bytes s t
  have hsm : s.size < t.size → t.data.toList.isPrefixOf s.data.toList = false := by
    intro h
    rw [Bool.eq_false_iff]
    intro h2
    have h3 := (List.isPrefixOf_iff_prefix.1 h2).length_le
    have h4 : t.data.toList.length = t.size := by rw [Array.length_toList]; rfl
    have h5 : s.data.toList.length = s.size := by rw [Array.length_toList]; rfl
    omega
  generalize t.data.toList.isPrefixOf s.data.toList = b at *
  have hc : ∀ W, Calls Tryd.prog 47 #[.string s, .string t] W fun e w' => e = .returned (.bool b) ∧ w' = W := by
    intro W
    replace hp := hid hp
    replace hsm := hid hsm
    go_enter Tryd.func47, Tryd.ntmps47
    have hs' : (s.size : Int) ≤ 1000000 := by omega
    have ht' : (t.size : Int) ≤ 1000000 := by omega
    by_cases h : (t.size : Int) ≤ s.size
    · go_wp2
      go_ret
      exact ⟨by rw [hp.out (by omega)]; rfl, rfl⟩
    · go_wp2
      go_ret
      exact ⟨by rw [hsm.out (by omega)]; rfl, rfl⟩
  replace hc := hid hc
  clear hp hsm
  go_enter Tryd.func42, Tryd.ntmps42
  go_wp2_with (fail)
  refine (hc.out _).mono ?_
  rintro e w' ⟨rfl, rfl⟩
  go_wp2
  go_ret
  exact ⟨rfl, rfl⟩
end Go.Proofs.YtjkfefjfmocekaaDoor
namespace Go.Proofs.YtjkfefjfmocekaaDoor
open Go.RowKit

def lower (n : Int) : Int := if 65 ≤ n ∧ n ≤ 90 then n + 32 else n
def letter (n : Int) : Bool := decide (97 ≤ lower n ∧ lower n ≤ 122)
theorem lower_bd {n : Int} (h1 : -9223372036854775808 ≤ n) (h2 : n ≤ 9223372036854775807) : -9223372036854775808 ≤ lower n ∧ lower n ≤ 9223372036854775807 := by unfold lower; split <;> omega

set_option maxHeartbeats 400000 in
theorem Lower_any (n : Int) (w : World) (h1 : -9223372036854775808 ≤ n) (h2 : n ≤ 9223372036854775807) :
    Calls Tryd.prog 44 #[.int .i64 n] w fun e w' => e = .returned (.int .i64 (lower n)) ∧ w = w' := by
  by_cases a : 65 ≤ n
  · by_cases b : n ≤ 90
    · go_enter Tryd.func44, Tryd.ntmps44
      go_wp2
      all_goals go_ret
      all_goals exact ⟨ret_int (by unfold lower; split <;> omega), rfl⟩
    · go_enter Tryd.func44, Tryd.ntmps44
      go_wp2
      all_goals go_ret
      all_goals exact ⟨ret_int (by unfold lower; split <;> omega), rfl⟩
  · go_enter Tryd.func44, Tryd.ntmps44
    go_wp2
    all_goals go_ret
    all_goals exact ⟨ret_int (by unfold lower; split <;> omega), rfl⟩

set_option maxHeartbeats 400000 in
theorem Letter_any (n : Int) (w : World) (h1 : -9223372036854775808 ≤ n) (h2 : n ≤ 9223372036854775807) :
    Calls Tryd.prog 43 #[.int .i64 n] w fun e w' => e = .returned (.bool (letter n)) ∧ w = w' := by
  have hx : ∀ x : Int, lower n = x → letter n = decide (97 ≤ x ∧ x ≤ 122) := fun x hx => by simp only [letter, hx]
  have hc : ∀ w, Calls Tryd.prog 44 #[.int .i64 n] w fun e w' => e = .returned (.int .i64 (lower n)) ∧ w = w' := fun w => Lower_any n w h1 h2
  obtain ⟨x, hl⟩ : ∃ x, lower n = x := ⟨_, rfl⟩
  have hr := hx x hl
  rw [hl] at hc
  rw [hr]
  have HC := hid hc
  clear hr hx hl hc
  by_cases a : 97 ≤ x
  · by_cases b : x ≤ 122
    · go_enter Tryd.func43, Tryd.ntmps43
      go_wp2_with (go_at_call 44; refine (HC.out _).mono ?_; rintro e w' ⟨rfl, rfl⟩)
      go_ret
      exact ⟨ret_bool (by simp [a, b]), rfl⟩
    · go_enter Tryd.func43, Tryd.ntmps43
      go_wp2_with (go_at_call 44; refine (HC.out _).mono ?_; rintro e w' ⟨rfl, rfl⟩)
      go_ret
      exact ⟨ret_bool (by simp; omega), rfl⟩
  · go_enter Tryd.func43, Tryd.ntmps43
    go_wp2_with (go_at_call 44; refine (HC.out _).mono ?_; rintro e w' ⟨rfl, rfl⟩)
    go_ret
    exact ⟨ret_bool (by simp; omega), rfl⟩

end Go.Proofs.YtjkfefjfmocekaaDoor
