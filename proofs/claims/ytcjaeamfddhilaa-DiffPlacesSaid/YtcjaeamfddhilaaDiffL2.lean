/- The walk of DiffTurns. -/
import Derived.Test.YtcjaeamfddhilaaDiffW
import Derived.Test.YtcjaeamfddhilaaDiffP
namespace Go.Proofs.Ytcjaeamfddhilaa
open Go.RowKit

theorem Sl.cellI {w : World} {p : Option Addr} {n c : Nat} {l : List Int} (h : Sl w 1 encI (.slice p n c) l) (hn : l ≠ []) : ∃ b o, p = some ⟨b, o, none⟩ ∧ n = l.length ∧ ∀ i x, l[i]? = some x → w.cell? ⟨b, o + i, none⟩ = some (.int .i64 x) := by
  obtain ⟨b, o, cap, e, _, _, h3⟩ := h.open hn
  cases e
  exact ⟨b, o, rfl, rfl, fun i x hi => by have := rangeAt_one (h3 i x hi); rwa [Nat.mul_one] at this⟩

set_option maxRecDepth 100000 in
set_option maxHeartbeats 2000000 in
theorem DiffTurns_any (w : World) (va vb : Value) (a b : List (List Int)) (hx : ∀ x ∈ a, x.length = 32) (hy : ∀ x ∈ b, x.length = 32) (ha : Sl w 32 u8s va a) (hb : Sl w 32 u8s vb b) :
    Calls Try.prog 4 #[va, vb] w fun e w' => e = .returned (.bool true) ∧ Below w.heap.size w w' := by
  obtain ⟨pa, ca, rfl, hla⟩ := ha.shape
  obtain ⟨pb, cb, rfl, hlb⟩ := hb.shape
  by_cases l1 : (300 : Int) < a.length
  · go_enter Try.func4, Try.ntmps4
    go_wp2_with (go_at_call 6; refine (wakes_any _).mono ?_; rintro e w' ⟨rfl, hB⟩)
    go_ret
    exact ⟨rfl, hB⟩
  by_cases l2 : (300 : Int) < b.length
  · go_enter Try.func4, Try.ntmps4
    go_wp2_with (go_at_call 6; refine (wakes_any _).mono ?_; rintro e w' ⟨rfl, hB⟩)
    go_ret
    exact ⟨rfl, hB⟩
  have k1 : a.length ≤ 1000 := by omega
  have k2 : b.length ≤ 1000 := by omega
  have hcnt := codes_count a b
  have hform := fun x (h : x ∈ codes (plList a b)) => codes_form h
  have hrise := codes_rise a b
  have hflip := codes_flip a b
  have hself := codes_self a
  have Hcnt := hid hcnt
  have Hform := hid hform
  have Hrise := hid hrise
  have Hflip := hid hflip
  have Hself := hid hself
  clear hcnt hform hrise hflip hself
  by_cases hmx : a.length < b.length
  all_goals
    go_enter Try.func4, Try.ntmps4
    go_wp2_with (fail)
    refine (List_any _ _ _ a b hx hy ha hb k1 k2).mono ?_
    rintro e w1 ⟨r1, rfl, s1, d1⟩
    go_wp2_with (fail)
    refine (List_any _ _ _ b a hy hx ((Kept.of_below d1 0).sl hb) ((Kept.of_below d1 0).sl ha) k2 k1).mono ?_
    rintro e w2 ⟨r2, rfl, s2, d2⟩
    have s3 := (Kept.of_below d2 0).sl s1
    have d3 := d1.trans (d2.mono d1.size)
    rw [Hflip.out] at s2
    clear s1 d1 d2
    obtain ⟨A, hA⟩ : ∃ A, codes (plList a b) = A := ⟨_, rfl⟩
    rw [hA] at s2 s3
    obtain ⟨p1, q1, rfl, z1⟩ := s3.shape
    obtain ⟨p2, q2, rfl, z2⟩ := s2.shape
    have hlen : (A.map flipc).length = A.length := by simp
    rw [hlen] at s2 ⊢
    clear hlen z2
    have HA := hid hA
    clear hA
    unfold maxLen at z1
    go_wp2_with (fail)
    refine (List_any _ _ _ a a hx hx ((Kept.of_below d3 0).sl ha) ((Kept.of_below d3 0).sl ha) k1 k1).mono ?_
    rintro e w4 ⟨r4, rfl, s4, d4⟩
    rw [Hself.out] at s4
    obtain ⟨p4, q4, rfl, -⟩ := s4.shape
    have d5 := d3.trans (d4.mono d3.size)
    go_wp2_with (fail)
    refine (Same_any _ _ _ a b hx hy ((Kept.of_below d5 0).sl ha) ((Kept.of_below d5 0).sl hb) k1 k2).mono ?_
    rintro e w6 ⟨rfl, d6⟩
    have d7 := d5.trans (d6.mono d5.size)
    have s5 := (Kept.of_below d6 0).sl ((Kept.of_below d4 0).sl s2)
    have s6 := (Kept.of_below d6 0).sl ((Kept.of_below d4 0).sl s3)
    clear s2 s3 s4 d4 d6 d3 d5
    have t : ∀ m : Nat, max a.length b.length = m → ((A.length : Int) + same (plList a b) != (m : Int)) = false := fun m hm => by
      have := Hcnt.out
      rw [HA.out, hm] at this
      simp [this]
    have t' : ((A.length : Int) + same (plList a b) != (b.length : Int)) = false ∧ a.length < b.length ∨ ((A.length : Int) + same (plList a b) != (a.length : Int)) = false ∧ ¬ a.length < b.length := by
      by_cases hh : a.length < b.length
      · exact .inl ⟨t _ (by omega), hh⟩
      · exact .inr ⟨t _ (by omega), hh⟩
    clear t
    have bd := same_bd (plList a b)
    have bl : (plList a b).length ≤ 1000 := by simp [plList]; omega
    have bA : A.length ≤ 1000 := by
      have := Hcnt.out
      rw [HA.out] at this
      omega
    generalize same (plList a b) = S at *
    rcases t' with ⟨t1, hm1⟩ | ⟨t1, hm1⟩ <;> first | omega | skip
    go_wp2_with (fail)
    clear t1 bd bl hmx hm1
    go_loopw [7] (fun i wr => ∃ (k : Nat), k ≤ A.length ∧ i = .int .i64 k ∧ Drew w6 wr) (fun i _ => A.length - (intOf i).toNat)
    case atStart => exact ⟨0, Nat.zero_le _, rfl, Drew.refl _⟩
    case round =>
      obtain ⟨k, hk, rfl, hD⟩ := hrel
      by_cases hlt : k < A.length
      · have hne : A ≠ [] := by rintro rfl; simp at hlt
        obtain ⟨b1, o1, rfl, -, c1⟩ := Sl.cellI s6 hne
        obtain ⟨b2, o2, rfl, -, c2⟩ := Sl.cellI s5 (by simpa using hne)
        have x1 := hD.cell (c1 k A[k] (by simp))
        have x2 := hD.cell (c2 k (flipc A[k]) (by rw [List.getElem?_map, List.getElem?_eq_getElem hlt]; rfl))
        obtain ⟨i, q, e1, e2, e3, -, e4⟩ := Hform.out A[k] (by rw [HA.out]; exact List.getElem_mem _)
        obtain ⟨f1, f2, f3, f4, f5, f6⟩ := turn_at e1 e2 e3
        have hup : 0 < k → ∃ X0, X0 < A[k] ∧ wr.cell? ⟨b1, o1 + (k - 1), none⟩ = some (.int .i64 X0) := fun h0 => by
          have := Hrise.out
          rw [HA.out] at this
          exact ⟨A[k-1], List.pairwise_iff_getElem.1 this (k - 1) k (by omega) hlt (by omega), hD.cell (c1 (k - 1) A[k-1] (by simp))⟩
        have bd1 : 0 ≤ A[k] ∧ A[k] ≤ 4003 := by omega
        have bd2 : 0 ≤ flipc A[k] ∧ flipc A[k] ≤ 4003 := by omega
        clear c1 c2 e1 f5 f6 s5 s6
        generalize flipc A[k] = Y at *
        generalize A[k] = X at *
        have m1 : (k : Int) < (A.length : Int) := by omega
        have hk0 : k = 0 ∨ 0 < k := by omega
        have hsq : (q = 1 ∧ sw q = 2) ∨ (q = 2 ∧ sw q = 1) ∨ (q = 3 ∧ sw q = 3) := by
          rcases (by omega : q = 1 ∨ q = 2 ∨ q = 3) with rfl | rfl | rfl <;> decide
        have Hup := hid hup
        rcases hk0 with rfl | hk0
        · simp only [Nat.add_zero] at x1 x2
          rcases hsq with ⟨g1, g2⟩ | ⟨g1, g2⟩ | ⟨g1, g2⟩
          all_goals
            rw [g1] at f3
            rw [g2] at f4
            clear g1 g2 e2 e3 e4 hup Hup
            go_wp2
            go_quiet (first | (go_at_call 10; exact Calls.quiet_of_same ((Kind_any _ _ (by omega) (by omega)).mono fun e w' ⟨h1, h2⟩ => ⟨h1, h2.symm⟩)) | (go_at_call 11; exact Calls.quiet_of_same ((Place_any _ _ (by omega) (by omega)).mono fun e w' ⟨h1, h2⟩ => ⟨h1, h2.symm⟩)))
            have hD2 : Drew wr (wr.drewN nq) := ⟨nq, rfl⟩
            replace x1 := hD2.cell x1
            replace x2 := hD2.cell x2
            replace hD := hD.trans hD2
            clear hD2
            generalize wr.drewN nq = wr at *
            go_wp2
            go_quiet (first | (go_at_call 10; exact Calls.quiet_of_same ((Kind_any _ _ (by omega) (by omega)).mono fun e w' ⟨h1, h2⟩ => ⟨h1, h2.symm⟩)) | (go_at_call 11; exact Calls.quiet_of_same ((Place_any _ _ (by omega) (by omega)).mono fun e w' ⟨h1, h2⟩ => ⟨h1, h2.symm⟩)))
            go_wp2
            go_roundw
            case rel => exact ⟨1, by omega, by first | rfl | go_num, hD.drewN _⟩
            case measure => simp [intOf]; omega
        · obtain ⟨X0, hX0, x3⟩ := Hup.out hk0
          have m2 : (0 : Int) < (k : Int) := by omega
          rcases hsq with ⟨g1, g2⟩ | ⟨g1, g2⟩ | ⟨g1, g2⟩
          all_goals
            rw [g1] at f3
            rw [g2] at f4
            clear g1 g2 e2 e3 e4 hup Hup
            go_wp2
            go_quiet (first | (go_at_call 10; exact Calls.quiet_of_same ((Kind_any _ _ (by omega) (by omega)).mono fun e w' ⟨h1, h2⟩ => ⟨h1, h2.symm⟩)) | (go_at_call 11; exact Calls.quiet_of_same ((Place_any _ _ (by omega) (by omega)).mono fun e w' ⟨h1, h2⟩ => ⟨h1, h2.symm⟩)))
            have hD2 : Drew wr (wr.drewN nq) := ⟨nq, rfl⟩
            replace x1 := hD2.cell x1
            replace x2 := hD2.cell x2
            replace x3 := hD2.cell x3
            replace hD := hD.trans hD2
            clear hD2
            generalize wr.drewN nq = wr at *
            go_wp2
            go_quiet (first | (go_at_call 10; exact Calls.quiet_of_same ((Kind_any _ _ (by omega) (by omega)).mono fun e w' ⟨h1, h2⟩ => ⟨h1, h2.symm⟩)) | (go_at_call 11; exact Calls.quiet_of_same ((Place_any _ _ (by omega) (by omega)).mono fun e w' ⟨h1, h2⟩ => ⟨h1, h2.symm⟩)))
            go_wp2
            go_roundw
            case rel => exact ⟨k + 1, by omega, by first | rfl | go_num, hD.drewN _⟩
            case measure => simp [intOf]; omega
      · clear s5 s6
        go_wp2_with (fail)
        refine (wakes_any _).mono ?_
        rintro e w9 ⟨rfl, d9⟩
        go_wp2
        go_ret
        exact ⟨rfl, (below_drew d7 hD).trans (d9.mono (below_drew d7 hD).size)⟩
end Go.Proofs.Ytcjaeamfddhilaa
