/- The walk of chapter 11's tame. -/
import Derived.Test.YtgbfekimflnaiaaDoorMkK
import Derived.Test.YtgbfekimflnaiaaDoorMkR
namespace Go.Proofs.YtgbfekimflnaiaaDoor
open Go.RowKit Go.Shelf Go.Lib

set_option maxRecDepth 100000 in
set_option maxHeartbeats 2000000 in
theorem tame_any (s : ByteArray) (w : World) (hs : s.size ≤ 2000000) :
    Calls Tryd.prog 21 #[.string s] w fun e w' => e = .returned (.bool (decide (tameL s.data.toList))) ∧ w' = w := by
  go_enter Tryd.func21, Tryd.ntmps21
  go_wp2
  go_loopw [2, 3] (fun r i wr => ∃ j : Nat, r = .bool false ∧ j ≤ s.size ∧ i = .int .i64 j ∧ tameL (s.data.toList.take j) ∧ wr = w) (fun _ i _ => s.size - (RowKit.intOf i).toNat)
  case atStart => exact ⟨0, rfl, Nat.zero_le _, rfl, by simp [tameL], rfl⟩
  case round =>
    obtain ⟨j, rfl, hj, rfl, hall, rfl⟩ := hrel
    by_cases hjl : j < s.size
    · have hjI : (j : Int) < (s.size : Int) := by omega
      have hl : j < s.data.toList.length := by rw [size8]; exact hjl
      have hg : s.data.toList[j] = s[j] := rfl
      have htk : s.data.toList.take (j + 1) = s.data.toList.take j ++ [s[j]] := by rw [List.take_succ_eq_append_getElem hl, hg]
      have hmem : s[j] ∈ s.data.toList := by rw [← hg]; exact List.getElem_mem hl
      replace hall := hid hall
      by_cases h1 : (s[j].toNat : Int) < 32
      · have hno : decide (tameL s.data.toList) = false := by
          rw [decide_eq_false_iff_not]
          intro h
          have := h _ hmem
          omega
        replace hno := hid hno
        replace htk := hid htk
        clear hg hmem
        go_wp2
        go_ret
        exact ⟨by rw [hno.out]; rfl, rfl⟩
      · by_cases h2 : (126 : Int) < (s[j].toNat : Int)
        · have hno : decide (tameL s.data.toList) = false := by
            rw [decide_eq_false_iff_not]
            intro h
            have := h _ hmem
            omega
          replace hno := hid hno
          replace htk := hid htk
          clear hg hmem
          go_wp2
          go_ret
          exact ⟨by rw [hno.out]; rfl, rfl⟩
        · have hnx : tameL (s.data.toList.take (j + 1)) := by
            rw [htk]
            refine tame_app hall.out fun b hb => ?_
            obtain rfl := List.mem_singleton.1 hb
            omega
          replace hnx := hid hnx
          replace htk := hid htk
          clear hg hmem
          go_wp2
          go_roundw
          case rel => exact ⟨j + 1, rfl, by omega, by go_num, hnx.out, by trivial⟩
          case measure => simp [RowKit.intOf]; omega
    · rw [List.take_of_length_le (by rw [size8]; omega)] at hall
      have hyes : decide (tameL s.data.toList) = true := decide_eq_true hall
      replace hyes := hid hyes
      clear hall
      go_wp2
      go_ret
      exact ⟨by rw [hyes.out]; rfl, rfl⟩
end Go.Proofs.YtgbfekimflnaiaaDoor
