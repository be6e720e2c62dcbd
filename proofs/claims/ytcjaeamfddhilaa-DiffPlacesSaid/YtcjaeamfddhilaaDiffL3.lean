/- The walk of DiffPlaces (by gen_diffl3.py). -/
import Derived.Test.YtcjaeamfddhilaaDiffL2
namespace Go.Proofs.Ytcjaeamfddhilaa
open Go.RowKit

theorem codes_split (a b : List (List Int)) (k : Nat) (hk : k < max a.length b.length) :
    codes (plList a b) = codes ((plList a b).take k) ++ (if 0 < kindL a b k then [4 * (k : Int) + kindL a b k] else []) ++ codes ((plList a b).drop (k + 1)) := by
  have hl : k < (plList a b).length := by simp [plList]; omega
  conv => lhs; rw [← List.take_append_drop (k + 1) (plList a b), codes, List.filterMap_append]
  congr 1
  rw [List.take_succ_eq_append_getElem hl]
  have : (plList a b)[k] = (k, kindL a b k) := by simp [plList]
  rw [this]
  by_cases h : 0 < kindL a b k
  · rw [if_pos h]; exact codes_hit _ _ h
  · rw [if_neg h, List.append_nil]; exact codes_miss _ _ h

/-- the code at the place where those of the first k places end -/
theorem codes_at (a b : List (List Int)) (k : Nat) (hk : k < max a.length b.length) (h : 0 < kindL a b k) :
    (codes (plList a b))[(codes ((plList a b).take k)).length]? = some (4 * (k : Int) + kindL a b k) ∧ (codes ((plList a b).take (k + 1))).length = (codes ((plList a b).take k)).length + 1 := by
  refine ⟨?_, ?_⟩
  · rw [codes_split a b k hk, if_pos h]
    simp
  · have hl : k < (plList a b).length := by simp [plList]; omega
    rw [List.take_succ_eq_append_getElem hl]
    have : (plList a b)[k] = (k, kindL a b k) := by simp [plList]
    rw [this, codes_hit _ _ h]; simp
theorem codes_not (a b : List (List Int)) (k : Nat) (hk : k < max a.length b.length) (h : kindL a b k = 0) :
    (codes ((plList a b).take (k + 1))).length = (codes ((plList a b).take k)).length ∧ ∀ x, (codes (plList a b))[(codes ((plList a b).take k)).length]? = some x → 4 * (k : Int) + 4 < x ∧ x ≤ 4003 + 4 * max a.length b.length := by
  have hl : k < (plList a b).length := by simp [plList]; omega
  refine ⟨?_, fun x hx => ?_⟩
  · rw [List.take_succ_eq_append_getElem hl]
    have : (plList a b)[k] = (k, kindL a b k) := by simp [plList]
    rw [this, codes_miss _ _ (by simp [h])]
  · rw [codes_split a b k hk, if_neg (by omega), List.append_nil, List.getElem?_append_right (by omega), Nat.sub_self] at hx
    have hm : x ∈ codes ((plList a b).drop (k + 1)) := List.mem_of_getElem? hx
    obtain ⟨y, hy, hc⟩ := List.mem_filterMap.1 hm
    obtain ⟨i, hi, rfl⟩ := List.mem_iff_getElem.1 hy
    have hi2 : k + 1 + i < max a.length b.length := by simp [plList] at hi; omega
    have e : ((plList a b).drop (k + 1))[i] = (k + 1 + i, kindL a b (k + 1 + i)) := by simp [plList]
    rw [e] at hc
    have h3 := kindL_bd a b (k + 1 + i)
    unfold code at hc
    split at hc
    · rename_i h0
      simp at hc h0
      omega
    · cases hc

set_option maxRecDepth 100000 in
set_option maxHeartbeats 4000000 in
theorem DiffPlaces_any (w : World) (va vb : Value) (a b : List (List Int)) (hx : ∀ x ∈ a, x.length = 32) (hy : ∀ x ∈ b, x.length = 32) (ha : Sl w 32 u8s va a) (hb : Sl w 32 u8s vb b) :
    Calls Try.prog 5 #[va, vb] w fun e w' => e = .returned (.bool true) ∧ Below w.heap.size w w' := by
  obtain ⟨pa, ca, rfl, hla⟩ := ha.shape
  obtain ⟨pb, cb, rfl, hlb⟩ := hb.shape
  by_cases l1 : (200 : Int) < a.length
  · go_enter Try.func5, Try.ntmps5
    go_wp2_with (go_at_call 6; refine (wakes_any _).mono ?_; rintro e w' ⟨rfl, hB⟩)
    go_ret
    exact ⟨rfl, hB⟩
  by_cases l2 : (200 : Int) < b.length
  · go_enter Try.func5, Try.ntmps5
    go_wp2_with (go_at_call 6; refine (wakes_any _).mono ?_; rintro e w' ⟨rfl, hB⟩)
    go_ret
    exact ⟨rfl, hB⟩
  have k1 : a.length ≤ 1000 := by omega
  have k2 : b.length ≤ 1000 := by omega
  go_enter Try.func5, Try.ntmps5
  go_wp2_with (fail)
  refine (List_any _ _ _ a b hx hy ha hb k1 k2).mono ?_
  rintro e w1 ⟨r1, rfl, s1, d1⟩
  obtain ⟨p1, q1, rfl, z1⟩ := s1.shape
  have hA : (codes (plList a b)).length ≤ 1000 := by
    have := codes_len (plList a b)
    simp [plList] at this ⊢; omega
  have ha1 := (Kept.of_below d1 0).sl ha
  have hb1 := (Kept.of_below d1 0).sl hb
  clear ha hb z1
  go_wp2_with (fail)
  go_loopw [6, 7, 8, 9] (fun at_ i _ _ wr => ∃ (k : Nat), k ≤ max a.length b.length ∧ i = .int .i64 k ∧ at_ = .int .i64 ((codes ((plList a b).take k)).length : Nat) ∧ Drew w1 wr) (fun _ i _ _ _ => max a.length b.length - (intOf i).toNat)
  case atStart => exact ⟨0, Nat.zero_le _, rfl, rfl, Drew.refl _⟩
  case round =>
    obtain ⟨k, hk, rfl, rfl, hD⟩ := hrel
    have hat : (codes ((plList a b).take k)).length ≤ k := Nat.le_trans (codes_len _) (List.length_take_le _ _)
    have hat2 : (codes ((plList a b).take k)).length ≤ (codes (plList a b)).length := by
      conv => rhs; rw [← List.take_append_drop k (plList a b), codes, List.filterMap_append]
      simp [codes]
    by_cases hlt : k < max a.length b.length
    · have hmx : a.length < b.length ∨ ¬ a.length < b.length := by omega
      by_cases h1 : b.length ≤ k
      · have hkd : kindL a b k = 1 := by simp [kindL, h1]
        obtain ⟨c1, c2⟩ := codes_at a b k hlt (by omega)
        rw [hkd] at c1
        have hne : codes (plList a b) ≠ [] := by intro h; rw [h] at c1; simp at c1
        have hn := (List.getElem?_eq_some_iff.1 c1).1
        obtain ⟨bl, ol, rfl, -, cc⟩ := Sl.cellI (hD.sl s1) hne
        have x1 := cc _ _ c1
        obtain ⟨-, f2, f3, -⟩ := turn_at (x := 4 * (k : Int) + 1) (i := k) (k := 1) rfl (by omega) (by omega)
        have Hc := hid c2
        have m1 : (((codes ((plList a b).take k)).length : Nat) : Int) < ((codes (plList a b)).length : Int) := by omega
        clear c1 c2 cc hkd hne s1 ha1 hb1
        generalize (codes ((plList a b).take k)).length = t at *
        generalize (codes (plList a b)).length = n at *
        have hmx2 : ¬ a.length < b.length := by omega
        have hlt2 : k < a.length := by omega
        clear hmx
        go_wp2_with (fail)
        refine (Place_at _ k f2 _ (by omega) (by omega)).mono ?_
        rintro e w' ⟨rfl, rfl⟩
        go_wp2_with (fail)
        refine (Kind_at _ 1 f3 _ (by omega) (by omega)).mono ?_
        rintro e w' ⟨rfl, rfl⟩
        go_wp2
        go_roundw
        case rel => exact ⟨k + 1, by omega, by go_num, by first | (rw [Hc.out]; done) | (rw [Hc.out]; go_num), hD⟩
        case measure => simp [intOf]; omega
      · by_cases h2 : a.length ≤ k
        · have hkd : kindL a b k = 2 := by simp [kindL, h1, h2]
          obtain ⟨c1, c2⟩ := codes_at a b k hlt (by omega)
          rw [hkd] at c1
          have hne : codes (plList a b) ≠ [] := by intro h; rw [h] at c1; simp at c1
          have hn := (List.getElem?_eq_some_iff.1 c1).1
          obtain ⟨bl, ol, rfl, -, cc⟩ := Sl.cellI (hD.sl s1) hne
          have x1 := cc _ _ c1
          obtain ⟨-, f2, f3, -⟩ := turn_at (x := 4 * (k : Int) + 2) (i := k) (k := 2) rfl (by omega) (by omega)
          have Hc := hid c2
          have m1 : (((codes ((plList a b).take k)).length : Nat) : Int) < ((codes (plList a b)).length : Int) := by omega
          clear c1 c2 cc hkd hne s1 ha1 hb1
          generalize (codes ((plList a b).take k)).length = t at *
          generalize (codes (plList a b)).length = n at *
          have hmx2 : a.length < b.length := by omega
          have hlt2 : k < b.length := by omega
          clear hmx
          go_wp2_with (fail)
          refine (Place_at _ k f2 _ (by omega) (by omega)).mono ?_
          rintro e w' ⟨rfl, rfl⟩
          go_wp2_with (fail)
          refine (Kind_at _ 2 f3 _ (by omega) (by omega)).mono ?_
          rintro e w' ⟨rfl, rfl⟩
          go_wp2
          go_roundw
          case rel => exact ⟨k + 1, by omega, by go_num, by first | (rw [Hc.out]; done) | (rw [Hc.out]; go_num), hD⟩
          case measure => simp [intOf]; omega
        · obtain ⟨bb, bo, bcap, eb, hb2', hb3, hb4⟩ := (hD.sl hb1).open (by rintro rfl; simp at h1)
          obtain ⟨ab, ao, acap, ea, ha2', ha3, ha4⟩ := (hD.sl ha1).open (by rintro rfl; simp at h2)
          cases eb; cases ea
          have la' := rangeAt_drewN (ha4 k a[k] (by simp))
          have lb' := rangeAt_drewN (hb4 k b[k] (by simp))
          have sa : (Try.prog.info? 25).map (·.size) = some (u8s a[k]).length := by rw [u8s_length, hx _ (List.getElem_mem _)]; kernel_rfl
          have sb : (Try.prog.info? 25).map (·.size) = some (u8s b[k]).length := by rw [u8s_length, hy _ (List.getElem_mem _)]; kernel_rfl
          have hq := fun w => run_eql_u8s (P := Try.prog) w (t := 25) (e := 5) (n := 32) Try.underlying25 Try.underlying5 (by kernel_rfl) a[k] b[k] (hx _ (List.getElem_mem _)) (hy _ (List.getElem_mem _))
          obtain ⟨d, hd⟩ : ∃ d : Bool, decide (a[k] = b[k]) = d := ⟨_, rfl⟩
          rw [hd] at hq
          have hkd0 : kindL a b k = if d then 0 else 3 := by
            have e1 : a[k]? = some a[k] := by simp
            have e2 : b[k]? = some b[k] := by simp
            rw [kindL, if_neg h1, if_neg h2, e1, e2, ← hd]; simp
          clear hd ha4 hb4
          have n1 : (k : Int) < (b.length : Int) := by omega
          have n2 : (k : Int) < (a.length : Int) := by omega
          cases d
          · have hkd : kindL a b k = 3 := by simpa using hkd0
            obtain ⟨c1, c2⟩ := codes_at a b k hlt (by omega)
            rw [hkd] at c1
            have hne : codes (plList a b) ≠ [] := by intro h; rw [h] at c1; simp at c1
            have hn := (List.getElem?_eq_some_iff.1 c1).1
            obtain ⟨bl, ol, rfl, -, cc⟩ := Sl.cellI (hD.sl s1) hne
            have x1 := cc _ _ c1
            obtain ⟨-, f2, f3, -⟩ := turn_at (x := 4 * (k : Int) + 3) (i := k) (k := 3) rfl (by omega) (by omega)
            have Hc := hid c2
            have m1 : (((codes ((plList a b).take k)).length : Nat) : Int) < ((codes (plList a b)).length : Int) := by omega
            clear c1 c2 cc hkd hne s1 ha1 hb1 hkd0
            generalize (codes ((plList a b).take k)).length = t at *
            generalize (codes (plList a b)).length = n at *
            rcases hmx with hmx | hmx
            all_goals
              go_wp2_with (fail)
              refine (Place_at _ k f2 _ (by omega) (by omega)).mono ?_
              rintro e w' ⟨rfl, rfl⟩
              go_wp2_with (fail)
              refine (Kind_at _ 3 f3 _ (by omega) (by omega)).mono ?_
              rintro e w' ⟨rfl, rfl⟩
              go_wp2
              refine wp_region_quiet_lit (by kernel_rfl) (by kernel_rfl) ?_
              repeat (quiet_step (fail))
              refine wpQuiet_load_mid rfl _ _ rfl _ _ rfl _ _ la' Try.underlying25 rfl sa ?_
              repeat (quiet_step (fail))
              refine wpQuiet_load_mid rfl _ _ rfl _ _ rfl _ _ lb' Try.underlying25 rfl sb ?_
              refine wpQuiet_binOp rfl _ _ _ _ _ rfl _ _ _ rfl rfl (fun w => run_eqGuard_agg w _ _ _ _ _ _ (by kernel_rfl)) hq ?_
              repeat (quiet_step (fail))
              refine wpQuiet_nil ?_
              rintro _ ⟨nq, rfl⟩
              clear hq la' lb' sa sb
              go_wp2
              go_roundw
              case rel => exact ⟨k + 1, by omega, by go_num, by first | (rw [Hc.out]; done) | (rw [Hc.out]; go_num), hD.drewN _⟩
              case measure => simp [intOf]; omega
          · have hkd : kindL a b k = 0 := by simpa using hkd0
            obtain ⟨c1, c2⟩ := codes_not a b k hlt hkd
            have Hc := hid c1
            by_cases hn : (codes ((plList a b).take k)).length < (codes (plList a b)).length
            · have hne : codes (plList a b) ≠ [] := by intro h; rw [h] at hn; simp at hn
              obtain ⟨bl, ol, rfl, -, cc⟩ := Sl.cellI (hD.sl s1) hne
              obtain ⟨X, hX⟩ : ∃ X, (codes (plList a b))[(codes ((plList a b).take k)).length]? = some X := ⟨_, List.getElem?_eq_getElem hn⟩
              have x1 := cc _ _ hX
              have hXb := c2 _ hX
              have f2 : ∃ p : Int, placeN X = p ∧ (p == (k : Int)) = false := by
                refine ⟨_, rfl, ?_⟩
                have : placeN X ≠ k := by
                  unfold placeN
                  split
                  · rename_i h0
                    unfold kindN at h0
                    rw [if_pos (by omega)] at h0
                    intro hk0
                    obtain ⟨i, q, g1, g2, g3, -, -⟩ := codes_form (List.mem_of_getElem? hX)
                    omega
                  · omega
                simpa using this
              obtain ⟨p, f2, f3⟩ := f2
              have m1 : (((codes ((plList a b).take k)).length : Nat) : Int) < ((codes (plList a b)).length : Int) := by omega
              have hX1 : -9223372036854775808 ≤ X ∧ X ≤ 9223372036854775807 := by omega
              clear c1 c2 cc hkd hkd0 hne s1 ha1 hb1 hX
              generalize (codes ((plList a b).take k)).length = t at *
              generalize (codes (plList a b)).length = n at *
              rcases hmx with hmx | hmx
              all_goals
                go_wp2_with (fail)
                refine (Place_at _ p f2 _ hX1.1 hX1.2).mono ?_
                rintro e w' ⟨rfl, rfl⟩
                go_wp2
                refine wp_region_quiet_lit (by kernel_rfl) (by kernel_rfl) ?_
                repeat (quiet_step (fail))
                refine wpQuiet_load_mid rfl _ _ rfl _ _ rfl _ _ la' Try.underlying25 rfl sa ?_
                repeat (quiet_step (fail))
                refine wpQuiet_load_mid rfl _ _ rfl _ _ rfl _ _ lb' Try.underlying25 rfl sb ?_
                refine wpQuiet_binOp rfl _ _ _ _ _ rfl _ _ _ rfl rfl (fun w => run_eqGuard_agg w _ _ _ _ _ _ (by kernel_rfl)) hq ?_
                repeat (quiet_step (fail))
                refine wpQuiet_nil ?_
                rintro _ ⟨nq, rfl⟩
                clear hq la' lb' sa sb
                go_wp2
                go_roundw
                case rel => exact ⟨k + 1, by omega, by go_num, by first | (rw [Hc.out]; done) | (rw [Hc.out]; go_num), hD.drewN _⟩
                case measure => simp [intOf]; omega
            · have m1 : ¬ (((codes ((plList a b).take k)).length : Nat) : Int) < ((codes (plList a b)).length : Int) := by omega
              clear c1 c2 hkd hkd0 s1 ha1 hb1
              generalize (codes ((plList a b).take k)).length = t at *
              generalize (codes (plList a b)).length = n at *
              rcases hmx with hmx | hmx
              all_goals
                go_wp2
                refine wp_region_quiet_lit (by kernel_rfl) (by kernel_rfl) ?_
                repeat (quiet_step (fail))
                refine wpQuiet_load_mid rfl _ _ rfl _ _ rfl _ _ la' Try.underlying25 rfl sa ?_
                repeat (quiet_step (fail))
                refine wpQuiet_load_mid rfl _ _ rfl _ _ rfl _ _ lb' Try.underlying25 rfl sb ?_
                refine wpQuiet_binOp rfl _ _ _ _ _ rfl _ _ _ rfl rfl (fun w => run_eqGuard_agg w _ _ _ _ _ _ (by kernel_rfl)) hq ?_
                repeat (quiet_step (fail))
                refine wpQuiet_nil ?_
                rintro _ ⟨nq, rfl⟩
                clear hq la' lb' sa sb
                go_wp2
                go_roundw
                case rel => exact ⟨k + 1, by omega, by go_num, by first | (rw [Hc.out]; done) | (rw [Hc.out]; go_num), hD.drewN _⟩
                case measure => simp [intOf]; omega
    · obtain rfl : k = max a.length b.length := by omega
      have he : (codes ((plList a b).take (max a.length b.length))).length = (codes (plList a b)).length := by
        rw [List.take_of_length_le (by simp [plList])]
      rw [he]
      clear hat hat2 he s1 ha1 hb1
      have hmx : a.length < b.length ∨ ¬ a.length < b.length := by omega
      generalize (codes (plList a b)).length = n at *
      rcases hmx with hmx | hmx
      · obtain ⟨m, hm⟩ : ∃ m, max a.length b.length = m := ⟨_, rfl⟩
        obtain rfl : m = b.length := by omega
        rw [hm]
        clear hm hlt hk
        go_wp2_with (fail)
        refine (wakes_any _).mono ?_
        rintro e w9 ⟨rfl, d9⟩
        go_wp2
        go_ret
        exact ⟨rfl, (below_drew d1 hD).trans (d9.mono (below_drew d1 hD).size)⟩
      · obtain ⟨m, hm⟩ : ∃ m, max a.length b.length = m := ⟨_, rfl⟩
        obtain rfl : m = a.length := by omega
        rw [hm]
        clear hm hlt hk
        go_wp2_with (fail)
        refine (wakes_any _).mono ?_
        rintro e w9 ⟨rfl, d9⟩
        go_wp2
        go_ret
        exact ⟨rfl, (below_drew d1 hD).trans (d9.mono (below_drew d1 hD).size)⟩
end Go.Proofs.Ytcjaeamfddhilaa
