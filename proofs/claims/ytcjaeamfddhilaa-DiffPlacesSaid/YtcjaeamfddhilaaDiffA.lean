/- The walks of diff's small functions: Kind, Place, kind. -/
import Derived.Test.YtcjaeamfddhilaaLib
import Derived.Deep.QuietTactic
import Derived.BigQuiet
namespace Go.Proofs.Ytcjaeamfddhilaa
open Go.RowKit

def kindN (n : Int) : Int := (if 0 ≤ n then n else 0) % 4
def placeN (n : Int) : Int := if kindN n = 0 then 0 else n / 4

def kindL (a b : List (List Int)) (i : Nat) : Int :=
  if b.length ≤ i then 1 else if a.length ≤ i then 2 else if a[i]? = b[i]? then 0 else 3

set_option maxHeartbeats 400000 in
theorem kind_any (w : World) (va vb : Value) (a b : List (List Int)) (i : Nat) (ha1 : ∀ x ∈ a, x.length = 32) (hb1 : ∀ x ∈ b, x.length = 32) (ha : Sl w 32 u8s va a) (hb : Sl w 32 u8s vb b) (hi : i ≤ maxLen) :
    Calls Try.prog 17 #[va, vb, .int .i64 i] w fun e w' => e = .returned (.int .i64 (kindL a b i)) ∧ ∃ n, w' = w.drewN n := by
  unfold maxLen at hi
  by_cases h1 : b.length ≤ i
  · have hv : ∃ p cap, vb = .slice p b.length cap := by obtain ⟨p, cap, rfl, _⟩ := hb.shape; exact ⟨p, cap, rfl⟩
    obtain ⟨p, cap, rfl⟩ := hv
    clear hb ha
    go_enter Try.func17, Try.ntmps17
    go_wp2
    go_ret
    exact ⟨by simp [kindL, h1], 0, rfl⟩
  · by_cases h2 : a.length ≤ i
    · have hv : ∃ p cap, vb = .slice p b.length cap := by obtain ⟨p, cap, rfl, _⟩ := hb.shape; exact ⟨p, cap, rfl⟩
      obtain ⟨p, cap, rfl⟩ := hv
      have hv : ∃ p cap, va = .slice p a.length cap := by obtain ⟨p, cap, rfl, _⟩ := ha.shape; exact ⟨p, cap, rfl⟩
      obtain ⟨p', cap', rfl⟩ := hv
      clear hb ha
      go_enter Try.func17, Try.ntmps17
      go_wp2
      go_ret
      exact ⟨by simp [kindL, h1, h2], 0, rfl⟩
    · obtain ⟨bb, bo, bcap, rfl, hb2, hb3, hb4⟩ := hb.open (by rintro rfl; simp at h1)
      obtain ⟨ab, ao, acap, rfl, ha2, ha3, ha4⟩ := ha.open (by rintro rfl; simp at h2)
      have la := rangeAt_drewN (ha4 i a[i] (by simp))
      have lb := rangeAt_drewN (hb4 i b[i] (by simp))
      have sa : (Try.prog.info? 25).map (·.size) = some (u8s a[i]).length := by rw [u8s_length, ha1 _ (List.getElem_mem _)]; kernel_rfl
      have sb : (Try.prog.info? 25).map (·.size) = some (u8s b[i]).length := by rw [u8s_length, hb1 _ (List.getElem_mem _)]; kernel_rfl
      have hq := fun w => run_neq_u8s (P := Try.prog) w (t := 25) (e := 5) (n := 32) Try.underlying25 Try.underlying5 (by kernel_rfl) a[i] b[i] (ha1 _ (List.getElem_mem _)) (hb1 _ (List.getElem_mem _))
      obtain ⟨d, hd⟩ : ∃ d : Bool, decide (a[i] = b[i]) = d := ⟨_, rfl⟩
      rw [hd] at hq
      have Hd := hid hd
      clear hd
      have k1 : (i : Int) < (b.length : Int) := by omega
      have k2 : (i : Int) < (a.length : Int) := by omega
      have hres : kindL a b i = if a[i] = b[i] then 0 else 3 := by
        have e1 : a[i]? = some a[i] := by simp
        have e2 : b[i]? = some b[i] := by simp
        rw [kindL, if_neg h1, if_neg h2, e1, e2]; simp
      have Hres := hid hres
      clear hres
      go_enter Try.func17, Try.ntmps17
      go_wp2
      refine wp_region_quiet_lit (by kernel_rfl) (by kernel_rfl) ?_
      repeat (quiet_step (fail))
      refine wpQuiet_load_mid rfl _ _ rfl _ _ rfl _ _ la Try.underlying25 rfl sa ?_
      repeat (quiet_step (fail))
      refine wpQuiet_load_mid rfl _ _ rfl _ _ rfl _ _ lb Try.underlying25 rfl sb ?_
      refine wpQuiet_binOp rfl _ _ _ _ _ rfl _ _ _ rfl rfl (fun w => run_eqGuard_agg w _ _ _ _ _ _ (by kernel_rfl)) hq ?_
      repeat (quiet_step (fail))
      refine wpQuiet_nil ?_
      rintro _ ⟨nq, rfl⟩
      cases d
      · go_wp2
        go_ret
        exact ⟨ret_int (by rw [Hres.out, if_neg (by simpa using Hd.out)]), _, rfl⟩
      · go_wp2
        go_ret
        exact ⟨ret_int (by rw [Hres.out, if_pos (by simpa using Hd.out)]), _, rfl⟩
end Go.Proofs.Ytcjaeamfddhilaa
