/- The walks of the reference's in and Sign, of sum and the Texts, and of layer 10's wakes. -/
import Derived.Test.YtjkfefjfmocekaaDoorMetA
namespace Go.Proofs.YtjkfefjfmocekaaDoor
open Go.RowKit Go.Shelf

/-- how wide signs are together -/
def sumw (l : List Int) : Int := (l.map width).sum
theorem sumw_append (a b : List Int) : sumw (a ++ b) = sumw a + sumw b := by simp [sumw]
theorem sumw_bd : ∀ l : List Int, 0 ≤ sumw l ∧ sumw l ≤ 10 * l.length
  | [] => ⟨by decide, by decide⟩
  | x :: l => by
    have h1 := sumw_bd l
    have h2 := width_bd x
    have : sumw (x :: l) = width x + sumw l := by simp [sumw]
    rw [this, List.length_cons]; omega
theorem sumw_take {l : List Int} {k : Nat} (h : k < l.length) : sumw (l.take (k + 1)) = sumw (l.take k) + width l[k] := by
  rw [List.take_succ_eq_append_getElem h, sumw_append]; simp [sumw]

set_option maxRecDepth 100000 in
set_option maxHeartbeats 2000000 in
theorem Sum_any (v : Value) (l : List Int) (w : World) (hl : l.length ≤ 1000000) (hsl : Sl w 1 encI v l) (hr : ∀ x ∈ l, -9223372036854775808 ≤ x ∧ x ≤ 9223372036854775807) :
    Calls Tryd.prog 18 #[v, .func (.func 10) #[] #[]] w fun e w' => e = .returned (.int .i64 (sumw l)) ∧ w' = w := by
  obtain ⟨p, cap, rfl, hmx⟩ := hsl.shape
  go_enter Tryd.func18, Tryd.ntmps18
  go_wp2
  go_loopw [5, 7, 10] (fun a _ i wr => ∃ k : Nat, k ≤ l.length ∧ a = .int .i64 (sumw (l.take k)) ∧ i = .int .i64 k ∧ wr = w) (fun _ _ i _ => l.length - (RowKit.intOf i).toNat)
  case atStart => exact ⟨0, Nat.zero_le _, rfl, rfl, rfl⟩
  case round =>
    obtain ⟨k, hk, rfl, rfl, rfl⟩ := hrel
    have hbd := sumw_bd (l.take k)
    by_cases hkl : k < l.length
    · have hne : l ≠ [] := by intro h; rw [h] at hkl; simp at hkl
      obtain ⟨b, o, cap', he, h1, h2, h3⟩ := hsl.open hne
      cases he
      have hc := rangeAt_one (h3 k l[k] (List.getElem?_eq_getElem hkl))
      simp only [Nat.mul_one] at hc
      have hnx := sumw_take hkl
      have hxr := hr l[k] (List.getElem_mem hkl)
      have hwb := width_bd l[k]
      have hcall := Sign_any l[k] wr hxr.1 hxr.2
      rw [List.length_take] at hbd
      generalize l[k] = x at *
      obtain ⟨S, hS⟩ : ∃ S, sumw (l.take k) = S := ⟨_, rfl⟩
      rw [hS] at hnx hbd ⊢
      have Hnx := hid hnx
      obtain ⟨X, hX⟩ : ∃ X, width x = X := ⟨_, rfl⟩
      rw [hX] at hcall hwb
      have HX := hid hX
      clear hnx hS hX h3 hr hsl hxr
      go_wp2_with (fail)
      refine hcall.mono ?_
      rintro e w' ⟨rfl, rfl⟩
      go_wp2
      refine ⟨⟨k + 1, by omega, ?_, rfl, trivial⟩, ?_⟩
      · rw [Hid.out Hnx, Hid.out HX]
      · simp only [RowKit.intOf]; omega
    · obtain rfl : k = l.length := by omega
      rw [List.take_length] at *
      clear hr hsl
      go_wp2
      go_ret
      exact ⟨rfl, rfl⟩

set_option maxRecDepth 100000 in
set_option maxHeartbeats 2000000 in
theorem MText_any (s : ByteArray) (w : World) (hs : s.size ≤ 1000000) (hT : Tabs w) :
    Calls Tryd.prog 9 #[.string s] w fun e w' => e = .returned (.int .i64 (sumw (sgn s.data.toList))) ∧ Below w.heap.size w w' := by
  have c1 := Signs_any s w hs hT
  have hlen := sgn_len s
  have hrng := hid (sgn_rng s.data.toList)
  clear hT
  go_enter Tryd.func9, Tryd.ntmps9
  go_wp2_with (fail)
  refine c1.mono ?_
  rintro e w1 ⟨v, rfl, hv, hB⟩
  have c2 := Sum_any v _ w1 (by omega) hv (Hid.out hrng)
  clear c1 hv
  go_wp2_with (fail)
  refine c2.mono ?_
  rintro e w' ⟨rfl, rfl⟩
  go_wp2
  go_ret
  exact ⟨rfl, hB⟩

end Go.Proofs.YtjkfefjfmocekaaDoor
