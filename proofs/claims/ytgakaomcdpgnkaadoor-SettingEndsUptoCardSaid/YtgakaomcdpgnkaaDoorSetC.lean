/- The walk of measure.First. -/
import Derived.Test.YtgakaomcdpgnkaaDoorSetB
namespace Go.Proofs.YtgakaomcdpgnkaaDoor
open Go.RowKit

theorem from1_cases (n : Int) (len : Nat) : (n ≤ -1 ∧ (from1 n len : Int) = 0) ∨ (-1 < n ∧ n < len ∧ (from1 n len : Int) = n + 1) ∨ (n = len ∧ (from1 n len : Int) = len + 1) ∨ ((len : Int) < n ∧ (from1 n len : Int) = len + 1) := by
  unfold from1; omega

set_option maxRecDepth 100000 in
set_option maxHeartbeats 1000000 in
theorem First_any (v : Value) (l : List It) (n : Int) (w : World) (hl : Sl w 6 encIt v l) (hle : l.length ≤ 5000) (hn : w64 n) :
    Calls Tryd.prog 28 #[v, .int .i64 n] w fun e w' => e = .returned (.int .i64 (firstL l n)) ∧ w = w' := by
  obtain ⟨h1, h2⟩ := hn
  obtain ⟨p, cap, rfl, hmx⟩ := hl.shape
  have hf : firstL l n = fst l (from1 n l.length) := rfl
  have Hf := hid hf
  clear hf hmx
  have hc := from1_cases n l.length
  have hk : ∃ k0 : Nat, from1 n l.length = k0 := ⟨_, rfl⟩
  obtain ⟨k0, hk0⟩ := hk
  rw [hk0] at hc
  have Hk0 := hid hk0
  have Hl := hid hl
  clear hk0 hl
  rcases hc with ⟨c1, c2⟩ | ⟨c0, c1, c2⟩ | ⟨rfl, c2⟩ | ⟨c1, c2⟩
  all_goals
    go_enter Tryd.func28, Tryd.ntmps28
    go_wp2
    first | rw [← (c2 : (k0 : Int) = n + 1)] | skip
    go_loopw [5] (fun i wr => ∃ k : Nat, k ≤ l.length + 1 ∧ i = .int .i64 k ∧ fst l k0 = fst l k ∧ wr = w) (fun i _ => l.length + 1 - (RowKit.intOf i).toNat)
    case atStart => exact ⟨k0, by omega, by first | rfl | rw [c2], rfl, rfl⟩
    case round =>
      obtain ⟨k, hk, rfl, hfs, rfl⟩ := hrel
      by_cases hkl : k < l.length
      · obtain ⟨b, o, cap', he, e1, e2, e3⟩ := (Hid.out Hl).open (by rintro rfl; simp at hkl)
        cases he
        have hc := e3 k l[k] (List.getElem?_eq_getElem hkl) 0 _ rfl
        simp only [Nat.add_zero] at hc
        by_cases hb : l[k].kind = 1
        · have hr := hid (fst_hit hkl hb)
          rw [hb] at hc
          replace hfs := hid hfs
          clear e3 hb
          go_wp2
          go_ret
          exact ⟨ret_int (by rw [Hf.out, Hk0.out, hfs.out, hr.out]), rfl⟩
        · have hr := hid (fst_next hkl hb)
          have q : (l[k].kind == 1) = false := by simpa using hb
          replace hfs := hid hfs
          clear e3 hb
          generalize l[k].kind = kk at hc q
          go_wp2
          go_roundw
          case rel => exact ⟨k + 1, by omega, by go_num, by rw [hfs.out, hr.out], trivial⟩
          case measure => simp [RowKit.intOf]; omega
      · have hr := hid (fst_end (l := l) (k := k) (by omega))
        replace hfs := hid hfs
        go_wp2
        go_ret
        exact ⟨ret_int (by rw [Hf.out, Hk0.out, hfs.out, hr.out]), rfl⟩
end Go.Proofs.YtgakaomcdpgnkaaDoor
