/- The walk of UtfLetters. -/
import Derived.Test.YtncohgkpdfmdgaaDoorUtfW
namespace Go.Proofs.YtncohgkpdfmdgaaDoor
open Go.RowKit Go.Shelf

set_option maxRecDepth 100000 in
set_option maxHeartbeats 2000000 in
theorem UtfLetters_any (v : Int) (w : World) (hT : Tabs w) (z1 : -9223372036854775808 ≤ v) (z2 : v ≤ 9223372036854775807) :
    Calls Tryd.prog 9 #[.int .i64 v] w fun e w' => e = .returned (.bool true) ∧ Below w.heap.size w w' := by
  have key : ∀ (l : Int) (b : Bool), lower v = l → lower l = l → letter v = b → letter l = b →
      (v < 65 ∧ l = v ∧ b = false ∨ 65 ≤ v ∧ v ≤ 90 ∧ v < 97 ∧ l = v + 32 ∧ b = true ∨ 65 ≤ v ∧ 90 < v ∧ v < 97 ∧ l = v ∧ b = false ∨ 65 ≤ v ∧ 90 < v ∧ 97 ≤ v ∧ v ≤ 122 ∧ l = v ∧ b = true ∨ 65 ≤ v ∧ 90 < v ∧ 97 ≤ v ∧ 122 < v ∧ l = v ∧ b = false) →
      Calls Tryd.prog 9 #[.int .i64 v] w fun e w' => e = .returned (.bool true) ∧ Below w.heap.size w w' := by
    intro l b h1 h2 h3 h4 hc
    have hb := lower_bd z1 z2
    have c1 := Lower_any v w z1 z2
    have c2 := Letter_any v w z1 z2
    have c3 := Lower_any l w (by rw [← h1]; exact hb.1) (by rw [← h1]; exact hb.2)
    have c4 := Letter_any l w (by rw [← h1]; exact hb.1) (by rw [← h1]; exact hb.2)
    have c5 := wakes9 w hT
    rw [h1] at c1
    rw [h3] at c2
    rw [h2] at c3
    rw [h4] at c4
    clear h1 h2 h3 h4 hb hT
    rcases hc with ⟨x1, rfl, rfl⟩ | ⟨x1, x2, x3, rfl, rfl⟩ | ⟨x1, x2, x3, rfl, rfl⟩ | ⟨x1, x2, x3, x4, rfl, rfl⟩ | ⟨x1, x2, x3, x4, rfl, rfl⟩
    all_goals
      go_enter Tryd.func9, Tryd.ntmps9
      go_wp2_with (fail)
      refine c1.mono ?_
      rintro e w' ⟨rfl, rfl⟩
      go_wp2_with (fail)
      refine c2.mono ?_
      rintro e w' ⟨rfl, rfl⟩
      go_wp2_with (fail)
      refine c3.mono ?_
      rintro e w' ⟨rfl, rfl⟩
      go_wp2_with (fail)
      refine c4.mono ?_
      rintro e w' ⟨rfl, rfl⟩
      go_wp2_with (fail)
      refine c2.mono ?_
      rintro e w' ⟨rfl, rfl⟩
      go_wp2_with (fail)
      refine c5.mono ?_
      rintro e w' ⟨rfl, hB⟩
      go_wp2
      go_ret
      first
      | exact ⟨rfl, hB⟩
      | exact ⟨ret_bool (by simp; try omega), hB⟩
  refine key (lower v) (letter v) rfl ?_ rfl ?_ ?_
  · by_cases h : 65 ≤ v ∧ v ≤ 90
    · rw [show lower v = v + 32 from if_pos h]; exact if_neg (by omega)
    · rw [show lower v = v from if_neg h, show lower v = v from if_neg h]
  · by_cases h : 65 ≤ v ∧ v ≤ 90
    · rw [show lower v = v + 32 from if_pos h]
      unfold letter
      rw [show lower v = v + 32 from if_pos h, show lower (v + 32) = v + 32 from if_neg (by omega)]
    · rw [show lower v = v from if_neg h]
  · by_cases h1 : v < 65
    · have e : lower v = v := if_neg (by omega)
      exact .inl ⟨h1, e, by unfold letter; rw [e]; exact decide_eq_false (by omega)⟩
    · by_cases h2 : v ≤ 90
      · have e : lower v = v + 32 := if_pos (by omega)
        exact .inr (.inl ⟨by omega, h2, by omega, e, by unfold letter; rw [e]; exact decide_eq_true (by omega)⟩)
      · have e : lower v = v := if_neg (by omega)
        by_cases h3 : v < 97
        · exact .inr (.inr (.inl ⟨by omega, by omega, h3, e, by unfold letter; rw [e]; exact decide_eq_false (by omega)⟩))
        · by_cases h4 : v ≤ 122
          · exact .inr (.inr (.inr (.inl ⟨by omega, by omega, by omega, h4, e, by unfold letter; rw [e]; exact decide_eq_true (by omega)⟩)))
          · exact .inr (.inr (.inr (.inr ⟨by omega, by omega, by omega, by omega, e, by unfold letter; rw [e]; exact decide_eq_false (by omega)⟩)))
end Go.Proofs.YtncohgkpdfmdgaaDoor
