/- The walk of DiffTells. -/
import Derived.Test.YtcjaeamfddhilaaDiffW
import Derived.Test.YtcjaeamfddhilaaApp
namespace Go.Proofs.Ytcjaeamfddhilaa
open Go.RowKit

theorem Try.infoD : (Try.prog.info? 25).map (fun i => (i.zero, i.size, i.bytes)) = some (some (.agg (u8s (List.replicate 32 0)).toArray), 32, 32) := by kernel_rfl

theorem same_more (a b : List (List Int)) (k : Nat) (h : ¬ (k < a.length ∧ k < b.length)) : same ((plList a b).take k) = same (plList a b) := by
  have h2 : ∀ x ∈ (plList a b).drop k, ¬ (x.2 == 0) = true := by
    intro x hx
    obtain ⟨i, hi, rfl⟩ := List.mem_iff_getElem.1 hx
    have : ¬ (k + i < a.length ∧ k + i < b.length) := by omega
    simp only [List.getElem_drop, plList, List.getElem_map, List.getElem_range]
    unfold kindL
    split
    · decide
    · split
      · decide
      · omega
  have h3 : ((plList a b).drop k).filter (fun x => x.2 == 0) = [] := List.filter_eq_nil_iff.2 h2
  unfold same
  conv => rhs; rw [← List.take_append_drop k (plList a b), List.filter_append, h3]
  simp

set_option maxRecDepth 100000 in
set_option maxHeartbeats 2000000 in
theorem DiffTells_any (w : World) (va vb : Value) (a b : List (List Int)) (n : Int) (hx : ∀ x ∈ a, x.length = 32) (hy : ∀ x ∈ b, x.length = 32) (ha : Sl w 32 u8s va a) (hb : Sl w 32 u8s vb b)
    (hn1 : -9223372036854775808 ≤ n) (hn2 : n ≤ 9223372036854775807) :
    Calls Try.prog 3 #[va, vb, .int .i64 n] w fun e w' => e = .returned (.bool true) ∧ Below w.heap.size w w' := by
  obtain ⟨pa, ca, rfl, hla⟩ := ha.shape
  obtain ⟨pb, cb, rfl, hlb⟩ := hb.shape
  by_cases l1 : (300 : Int) < a.length
  · go_enter Try.func3, Try.ntmps3
    go_wp2_with (go_at_call 6; refine (wakes_any _).mono ?_; rintro e w' ⟨rfl, hB⟩)
    go_ret
    exact ⟨rfl, hB⟩
  by_cases l2 : (300 : Int) < b.length
  · go_enter Try.func3, Try.ntmps3
    go_wp2_with (go_at_call 6; refine (wakes_any _).mono ?_; rintro e w' ⟨rfl, hB⟩)
    go_ret
    exact ⟨rfl, hB⟩
  have k1 : a.length ≤ 1000 := by omega
  have k2 : b.length ≤ 1000 := by omega
  obtain ⟨i0, hi, hz0, hz1, hz2⟩ := info_parts Try.infoD
  have o1 := owns_empty w w.heap.size 25 32 (Nat.le_refl _)
  have b1 : Below w.heap.size w (w.alloc (.cells #[] 25)) := (Below.refl _ w).alloc (Nat.le_refl _) _
  have tok1 : True := trivial
  go_enter Try.func3, Try.ntmps3
  go_wp2_with (first | (at_builtin; have _t := tok1; go_must (refine wpList_append_sl rfl _ _ 22 rfl w.heap.size 25 i0 _ 32 32 Try.underlying22 hi hz0 hz1 hz2 rfl (by decide) _ _ _ rfl o1 u8s _ a rfl ((Kept.of_below b1 0).sl ha) (u8s_enc hx) (by unfold maxLen; omega) (by omega) (by simp) ?_; intro v1 w1 ho1 hg1 _; clear tok1; have c1 : Below w.heap.size w w1 := b1.grown hg1 b1.size (fun j e => own_base o1 e); have x1 : Sl w1 32 u8s v1 a := sl_of_owns (fun x h => (u8s_enc hx x h).1) (by simpa using ho1))) | (at_builtin; go_must (refine wpList_append_sl rfl _ _ 22 rfl w1.heap.size 25 i0 _ 32 32 Try.underlying22 hi hz0 hz1 hz2 rfl (by decide) _ _ _ rfl (owns_empty w1 w1.heap.size 25 32 (Nat.le_refl _)) u8s _ b rfl ((Kept.alloc 0 w1 _).sl ((Kept.of_below c1 0).sl hb)) (u8s_enc hy) (by unfold maxLen; omega) (by omega) (by simp) ?_; intro v2 w2 ho2 hg2 _; have d2 : Below w1.heap.size w1 w2 := ((Below.refl _ w1).alloc (Nat.le_refl _) _).grown hg2 (by simp) (fun j e => own_base (owns_empty w1 w1.heap.size 25 32 (Nat.le_refl _)) e); have x2 : Sl w2 32 u8s v2 b := sl_of_owns (fun x h => (u8s_enc hy x h).1) (by simpa using ho2))))
  have c2 : Below w.heap.size w w2 := c1.trans (d2.mono c1.size)
  have x3 := (Kept.of_below d2 0).sl x1
  clear d2 x1 ho1 ho2 hg1 hg2 o1 b1 c1
  have ha2 := (Kept.of_below c2 0).sl ha
  have hb2 := (Kept.of_below c2 0).sl hb
  clear hi hz0 hz1 hz2
  go_loopw [9, 10] (fun s i wr => ∃ (k m : Nat), k ≤ a.length ∧ i = .int .i64 k ∧ s = .int .i64 (same ((plList a b).take k)) ∧ wr = w2.drewN m) (fun _ i _ => a.length - (intOf i).toNat)
  case atStart => exact ⟨0, 0, Nat.zero_le _, rfl, rfl, rfl⟩
  case round =>
    obtain ⟨k, m, hk, rfl, rfl, rfl⟩ := hrel
    have y1 := (Kept.drewN 0 w2 m).sl x3
    have y2 := (Kept.drewN 0 w2 m).sl x2
    have y3 := (Kept.drewN 0 w2 m).sl ha2
    have y4 := (Kept.drewN 0 w2 m).sl hb2
    have c3 : Below w.heap.size w (w2.drewN m) := c2.drewN m
    by_cases hlt : k < a.length ∧ k < b.length
    · obtain ⟨hlt1, hlt2⟩ := hlt
      obtain ⟨bb, bo, bcap, eb, hb2', hb3, hb4⟩ := y4.open (by rintro rfl; simp at hlt2)
      obtain ⟨ab, ao, acap, ea, ha2', ha3, ha4⟩ := y3.open (by rintro rfl; simp at hlt1)
      cases eb; cases ea
      have la' := rangeAt_drewN (ha4 k a[k] (by simp))
      have lb' := rangeAt_drewN (hb4 k b[k] (by simp))
      have sa : (Try.prog.info? 25).map (·.size) = some (u8s a[k]).length := by rw [u8s_length, hx _ (List.getElem_mem _)]; kernel_rfl
      have sb : (Try.prog.info? 25).map (·.size) = some (u8s b[k]).length := by rw [u8s_length, hy _ (List.getElem_mem _)]; kernel_rfl
      have hq := fun w => run_eql_u8s (P := Try.prog) w (t := 25) (e := 5) (n := 32) Try.underlying25 Try.underlying5 (by kernel_rfl) a[k] b[k] (hx _ (List.getElem_mem _)) (hy _ (List.getElem_mem _))
      have hk1 : (plList a b).take (k + 1) = (plList a b).take k ++ [(k, kindL a b k)] := by
        rw [List.take_succ_eq_append_getElem (by simp [plList]; omega)]; simp [plList]
      obtain ⟨d, hd⟩ : ∃ d : Bool, decide (a[k] = b[k]) = d := ⟨_, rfl⟩
      have hkd : kindL a b k = if d then 0 else 3 := by
        have e1 : a[k]? = some a[k] := by simp
        have e2 : b[k]? = some b[k] := by simp
        rw [kindL, if_neg (by omega), if_neg (by omega), e1, e2, ← hd]; simp
      rw [hd] at hq
      have hbd := same_bd ((plList a b).take k)
      have hle : ((plList a b).take k).length ≤ k := List.length_take_le _ _
      have g1 : d = true → same ((plList a b).take (k + 1)) = same ((plList a b).take k) + 1 := fun h => by rw [hk1, same_hit _ _ (by simp [hkd, h])]
      have g2 : d = false → same ((plList a b).take (k + 1)) = same ((plList a b).take k) := fun h => by rw [hk1, same_miss _ _ (by simp [hkd, h])]
      have G1 := hid g1
      have G2 := hid g2
      have m1 : (k : Int) < (b.length : Int) := by omega
      have m2 : (k : Int) < (a.length : Int) := by omega
      clear hk1 hkd hd ha4 hb4 g1 g2 x3 x2 ha2 hb2 y1 y2 y3 y4 c3 c2 hx hy ha hb
      generalize same ((plList a b).take k) = S at *
      go_wp2
      refine wp_region_quiet_lit (by kernel_rfl) (by kernel_rfl) ?_
      repeat (quiet_step (fail))
      refine wpQuiet_load_mid rfl _ _ rfl _ _ rfl _ _ la' Try.underlying25 rfl sa ?_
      repeat (quiet_step (fail))
      refine wpQuiet_load_mid rfl _ _ rfl _ _ rfl _ _ lb' Try.underlying25 rfl sb ?_
      refine wpQuiet_binOp rfl _ _ _ _ _ rfl _ _ _ rfl rfl (fun w => run_eqGuard_agg w _ _ _ _ _ _ (by kernel_rfl)) hq ?_
      repeat (quiet_step (fail))
      refine wpQuiet_nil ?_
      rintro _ ⟨nq, rfl⟩
      clear hq la' lb' sa sb
      cases d
      · go_wp2
        go_roundw
        case rel => exact ⟨k + 1, _, by omega, by go_num, by rw [G2.out rfl], by first | rfl | exact World.drewN_drewN ..⟩
        case measure => simp [intOf]; omega
      · go_wp2
        go_roundw
        case rel => exact ⟨k + 1, _, by omega, by go_num, by rw [G1.out rfl], by first | rfl | exact World.drewN_drewN ..⟩
        case measure => simp [intOf]; omega
    · have hs := same_more a b k hlt
      have q : (k < a.length ∧ ¬ k < b.length) ∨ ¬ k < a.length := by omega
      have hc : (0 ≤ n ∧ 0 < n % 4 ∧ (kindN n == n % 4) = true ∧ (placeN n == n / 4) = true) ∨ (0 ≤ n ∧ ¬ 0 < n % 4 ∧ (kindN n == 0) = true ∧ (placeN n == 0) = true) ∨ (¬ 0 ≤ n ∧ True ∧ (kindN n == 0) = true ∧ (placeN n == 0) = true) := by
        by_cases p1 : 0 ≤ n
        · have z1 : kindN n = n % 4 := by simp [kindN, p1]
          by_cases p2 : 0 < n % 4
          · exact .inl ⟨p1, p2, by simp [z1], by simp [placeN, z1]; omega⟩
          · exact .inr (.inl ⟨p1, p2, by simp [z1]; omega, by simp [placeN, z1]; omega⟩)
        · have z1 : kindN n = 0 := by simp [kindN, p1]
          exact .inr (.inr ⟨p1, trivial, by simp [z1], by simp [placeN, z1]⟩)
      clear hlt x3 x2 ha2 hb2 c2
      have y5 : same ((plList a b).take k) = same (plList a b) := hs
      rw [y5]
      clear hs y5
      generalize w2.drewN m = W at *
      rcases q with ⟨q1, q2⟩ | q1 <;> rcases hc with ⟨p1, p2, e1, e2⟩ | ⟨p1, p2, e1, e2⟩ | ⟨p1, p2, e1, e2⟩
      all_goals
        go_wp2_with (fail)
        refine (List_any _ _ _ a b hx hy y1 y2 k1 k2).mono ?_
        rintro e w3 ⟨r1, rfl, s3, d3⟩
        go_wp2_with (fail)
        refine (RList_any _ _ _ a b hx hy ((Kept.of_below d3 0).sl y3) ((Kept.of_below d3 0).sl y4) k1 k2).mono ?_
        rintro e w4 ⟨r2, rfl, s4, d4⟩
        go_wp2_with (fail)
        refine (Ints_eq _ _ _ _ _ ((Kept.of_below d4 0).sl s3) s4 rfl).mono ?_
        rintro e w5 ⟨rfl, n5, rfl⟩
        have e5 : Below W.heap.size W (w4.drewN n5) := (d3.trans (d4.mono d3.size)).drewN n5
        clear s3 s4
        generalize w4.drewN n5 = w5 at *
        go_wp2_with (fail)
        refine (Kind_any n _ hn1 hn2).mono ?_
        rintro e w' ⟨rfl, rfl⟩
        go_wp2_with (fail)
        refine (Place_any n _ hn1 hn2).mono ?_
        rintro e w' ⟨rfl, rfl⟩
        go_wp2_with (fail)
        refine (Same_any _ _ _ a b hx hy ((Kept.of_below e5 0).sl y1) ((Kept.of_below e5 0).sl y2) k1 k2).mono ?_
        rintro e w6 ⟨rfl, d6⟩
        have e6 := e5.trans (d6.mono e5.size)
        go_wp2_with (fail)
        refine (Digests_eq _ _ _ _ _ ((Kept.of_below e6 0).sl y1) ((Kept.of_below e6 0).sl y3) hx hx rfl).mono ?_
        rintro e w' ⟨rfl, n7, rfl⟩
        go_wp2_with (fail)
        refine (Digests_eq _ _ _ _ _ ((Kept.drewN 0 w6 n7).sl ((Kept.of_below e6 0).sl y2)) ((Kept.drewN 0 w6 n7).sl ((Kept.of_below e6 0).sl y4)) hy hy rfl).mono ?_
        rintro e w' ⟨rfl, n8, rfl⟩
        have e8 : Below w.heap.size w (w6.drewN (n7 + n8)) := (c3.trans (e6.mono c3.size)).drewN _
        go_wp2_with (fail)
        refine (wakes_any _).mono ?_
        rintro e w9 ⟨rfl, d9⟩
        go_wp2
        go_ret
        exact ⟨rfl, e8.trans (d9.mono (by have := e8.size; simpa using this))⟩
end Go.Proofs.Ytcjaeamfddhilaa
