/- The walk of the law IndexSizes (printed by gen_iyr.py). -/
import Derived.Test.YtomgjapjeckokaaIyQ
namespace Go.Proofs.Ytomgjapjeckokaa
open Go.RowKit Go.Shelf Go.Lib

set_option maxRecDepth 100000 in
set_option maxHeartbeats 2000000 in
theorem IndexSizes_any (n : Int) (w : World) (h1 : 0 ≤ n) (h2 : n ≤ 65535) :
    Calls Try.prog 7 #[.int .u16 n] w fun e w' => e = .returned (.bool true) ∧ Below w.heap.size w w' := by
  obtain ⟨n₀, hn₀⟩ : ∃ n, w.heap.size = n := ⟨_, rfl⟩
  have hw1 : IntKind.i64.wrap n = n := by rw [IntKind.wrap_i64]; omega
  obtain ⟨k, hk⟩ : ∃ k, n % 2000 = k := ⟨_, rfl⟩
  have hk2 : n.tmod 2000 = k := by rw [Int.tmod_eq_emod_of_nonneg h1]; exact hk
  have hk3 : 0 ≤ k ∧ k < 2000 := by omega
  have hkw : IntKind.i64.wrap k = k := by rw [IntKind.wrap_i64]; omega
  have cW := hid (fun (W : World) (hW : w = W) => wakes_any W)
  clear hk
  obtain ⟨hk4, hk5⟩ := hk3
  go_enter Try.func7, Try.ntmps7
  go_wp2_with (fail)
  refine (Size_any k _ (by omega)).mono ?_
  rintro r w1 ⟨rfl, hw2⟩
  by_cases h0 : k = 0
  · subst h0
    rw [show sizeS 0 = 0 from rfl]
    go_wp2_with (fail)
    refine (Size_any (-1) _ (by decide)).mono ?_
    rintro r w2 ⟨rfl, hw3⟩
    rw [show sizeS (-1) = 0 from rfl]
    go_wp2_with (fail)
    refine (Size_any 1 _ (by decide)).mono ?_
    rintro r w3 ⟨rfl, hw4⟩
    rw [show sizeS 1 = 2 from rfl]
    go_wp2_with (fail)
    refine (cW.out _ (by first | rfl | (subst hw2 hw3 hw4; rfl))).mono ?_
    rintro r w4 ⟨rfl, b4⟩
    go_wp2_with (fail)
    go_ret
    subst hn₀
    first | exact ⟨rfl, b4⟩ | (subst hw2 hw3 hw4; exact ⟨rfl, b4⟩)
  · have hs : sizeS k = (k - 1) / 3 + 2 := by unfold sizeS; rw [if_neg (by omega)]
    have hs1 : sizeS (k + 1) = k / 3 + 2 := by unfold sizeS; rw [if_neg (by omega), Int.add_sub_cancel]
    have hs3 : sizeS (k + 3) = (k - 1) / 3 + 3 := by unfold sizeS; rw [if_neg (by omega)]; omega
    obtain ⟨s, hse⟩ : ∃ s, (k - 1) / 3 + 2 = s := ⟨_, rfl⟩
    obtain ⟨s1, hse1⟩ : ∃ s, k / 3 + 2 = s := ⟨_, rfl⟩
    rw [hse] at hs
    rw [hse1] at hs1
    rw [show (k - 1) / 3 + 3 = s + 1 by omega] at hs3
    rw [hs]
    have f1 : 2 ≤ s := by omega
    have f2 : IntKind.i64.wrap (s - 1) = s - 1 := by rw [IntKind.wrap_i64]; omega
    have f3 : IntKind.i64.wrap ((s - 1) * 3) = (s - 1) * 3 := by rw [IntKind.wrap_i64]; omega
    have f4 : k ≤ (s - 1) * 3 := by omega
    have f5 : IntKind.i64.wrap (s - 2) = s - 2 := by rw [IntKind.wrap_i64]; omega
    have f6 : IntKind.i64.wrap ((s - 2) * 3) = (s - 2) * 3 := by rw [IntKind.wrap_i64]; omega
    have f7 : (s - 2) * 3 < k := by omega
    have f8 : IntKind.i64.wrap (k + 1) = k + 1 := by rw [IntKind.wrap_i64]; omega
    have f9 : s ≤ s1 := by omega
    have fA : IntKind.i64.wrap (k + 3) = k + 3 := by rw [IntKind.wrap_i64]; omega
    have fB : IntKind.i64.wrap (s + 1) = s + 1 := by rw [IntKind.wrap_i64]; omega
    have hk6 : k + 1 ≤ 9223372036854775807 := by omega
    have hk7 : k + 3 ≤ 9223372036854775807 := by omega
    clear hse hse1 hs
    replace hs1 := hid hs1
    replace hs3 := hid hs3
    go_wp2_with (fail)
    refine (Size_any (k + 1) _ hk6).mono ?_
    rintro r w2 ⟨rfl, hw3⟩
    rw [hs1.out]
    go_wp2_with (fail)
    refine (Size_any (k + 3) _ hk7).mono ?_
    rintro r w3 ⟨rfl, hw4⟩
    rw [hs3.out]
    go_wp2_with (fail)
    refine (cW.out _ (by first | rfl | (subst hw2 hw3 hw4; rfl))).mono ?_
    rintro r w4 ⟨rfl, b4⟩
    go_wp2_with (fail)
    go_ret
    subst hn₀
    first | exact ⟨rfl, b4⟩ | (subst hw2 hw3 hw4; exact ⟨rfl, b4⟩)
end Go.Proofs.Ytomgjapjeckokaa
