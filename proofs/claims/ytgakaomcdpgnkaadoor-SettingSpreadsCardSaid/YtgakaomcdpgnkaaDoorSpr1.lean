/- The walk of SettingSpreads. -/
import Derived.Test.YtgakaomcdpgnkaaDoorSetN
import Derived.Test.YtgakaomcdpgnkaaDoorSprP
import Derived.Deep.DeepCutAuto
import Derived.Deep.CutBlock
namespace Go.Proofs.YtgakaomcdpgnkaaDoor
open Go.RowKit Go.Shelf

theorem Tryd.infoIt : (Tryd.prog.info? 45).map (fun i => (i.zero, i.size, i.bytes)) = some (some (.agg #[.int .i64 0, .int .i64 0, .int .i64 0, .int .i64 0, .int .i64 0, .string ⟨#[]⟩]), 6, 56) := by kernel_rfl

theorem endW_last {P : List (Int × ByteArray)} {k : Nat} (h : P.length = k) (h0 : 0 < k) (hx : ∀ p ∈ P, p.2 = ⟨#[120]⟩) : endW tw P = xs P (k - 1) + 6 := by
  subst h
  have e : P.getLast? = some P[P.length - 1] := by rw [List.getLast?_eq_getElem?]; exact List.getElem?_eq_getElem _
  have e2 : xs P (P.length - 1) = P[P.length - 1].1 := by simp [xs, List.getD, show P.length - 1 < P.length by omega]
  unfold endW
  rw [e, e2]
  dsimp only
  rw [hx _ (List.getElem_mem _), tw_x]

theorem leastF_le (p : List (Int × ByteArray)) : ∀ k, leastF p k ≤ 1000 := by
  intro k
  induction k with
  | zero => exact Int.le_refl _
  | succ k ih => unfold leastF; split <;> omega
theorem le_mostF (p : List (Int × ByteArray)) : ∀ k, -1 ≤ mostF p k := by
  intro k
  induction k with
  | zero => exact Int.le_refl _
  | succ k ih => unfold mostF; split <;> omega

theorem fine_all {p : List (Int × ByteArray)} (h : fine p = true) : ∀ x ∈ p, (0 ≤ x.1 ∧ x.1 ≤ 1000) ∧ x.2 = ⟨#[120]⟩ := by
  intro x hx
  have := List.all_eq_true.1 h x hx
  simp only [Bool.and_eq_true, beq_iff_eq, decide_eq_true_eq] at this
  obtain ⟨⟨h1, h2⟩, h3⟩ := this
  refine ⟨⟨h1, h2⟩, ?_⟩
  have : x.2.data = #[120] := by rw [← Array.toList_inj]; exact h3
  cases hh : x.2 with
  | mk d => rw [hh] at this; rw [show d = #[120] from this]

set_option maxRecDepth 100000 in
set_option maxHeartbeats 4000000 in
theorem Spreads_any (a b : Int) (w : World) (ha1 : 0 ≤ a) (ha2 : a ≤ 255) (hb1 : 0 ≤ b) (hb2 : b ≤ 255) (hT : Tabs w) :
    Calls Tryd.prog 4 #[.int .u8 a, .int .u8 b] w fun e w' => e = .returned (.bool true) ∧ Below w.heap.size w w' := by
  obtain ⟨i0, hi, hz0, hz1, hz2⟩ := info_parts Tryd.infoIt
  obtain ⟨N, hN, hN1, hN2⟩ : ∃ N : Nat, 2 + a % 9 = N ∧ 2 ≤ N ∧ N ≤ 10 := ⟨(2 + a % 9).toNat, by omega, by omega, by omega⟩
  go_enter Tryd.func4, Tryd.ntmps4
  go_wp2_with (fail)
  try rw [hN]
  go_loopw [6, 7] (fun v i wr => ∃ k : Nat, k ≤ N ∧ i = .int .i64 k ∧ (∃ u, v = u ∧ wr.ownsRow w.heap.size 45 6 u (sp k).length ((sp k).flatMap encIt)) ∧ Below w.heap.size w wr) (fun _ i _ => N - (RowKit.intOf i).toNat)
  case atStart => exact ⟨0, Nat.zero_le _, rfl, ⟨_, rfl, World.ownsRow_nil _ _ _ _⟩, Below.refl _ _⟩
  case round =>
    obtain ⟨k, hk, rfl, ⟨u, rfl, hrow⟩, hB⟩ := hrel
    by_cases hlt : k < N
    · by_cases h0 : 0 < k
      · have hsp : (sp k).length ≤ 20 := by have := sp_len k h0; omega
        have hs1 := hid (show sp (k + 1) = sp k ++ [glueI] ++ [xI] by rw [sp, if_pos h0])
        obtain ⟨pu, cu, rfl, hu1, hu2⟩ := owns_shape hrow
        unfold maxLen at hu2
        go_upto_region 8 with (at_builtin; go_must (refine wpList_append_own _ rfl _ _ 28 rfl w.heap.size 45 i0 (.agg #[.int .i64 0, .int .i64 0, .int .i64 0, .int .i64 0, .int .i64 0, .string ⟨#[]⟩]) 6 56 Tryd.underlying28 hi hz0 hz1 hz2 rfl (by decide) _ _ _ rfl (hrow.alloc _) ⟨_, 0, none⟩ 1 1 [.int .i64 2, .int .i64 4, .int .i64 2, .int .i64 1, .int .i64 0, .string ⟨#[]⟩] rfl rfl (cells_new _ _ _) (by simp [Value.oneCell']) (by unfold maxLen; omega) (by omega) (by have := hB.size; simp; omega) ?_; intro v' w1 hown' hgrow _))
        have hB1 : Below w.heap.size w (wr.alloc (.cells #[.int .i64 2, .int .i64 4, .int .i64 2, .int .i64 1, .int .i64 0, .string ⟨#[]⟩] 45)) := hB.alloc hB.size _
        have hB2 := hB1.grown hgrow hB1.size (fun j e => own_base hrow e)
        have hrow2 := hown'
        have hsz2 : (sp k).length + 1 ≤ 21 := by omega
        replace hB := hB2
        obtain ⟨pu2, cu2, rfl, hv1, hv2⟩ := owns_shape hown'
        clear hB1 hB2 hrow hgrow hown'
        go_wp2_with (at_builtin; go_must (refine wpList_append_own _ rfl _ _ 28 rfl w.heap.size 45 i0 (.agg #[.int .i64 0, .int .i64 0, .int .i64 0, .int .i64 0, .int .i64 0, .string ⟨#[]⟩]) 6 56 Tryd.underlying28 hi hz0 hz1 hz2 rfl (by decide) _ _ _ rfl (hrow2.alloc _) ⟨_, 0, none⟩ 1 1 [.int .i64 1, .int .i64 6, .int .i64 0, .int .i64 0, .int .i64 0, .string ⟨#[120]⟩] rfl rfl (cells_new _ _ _) (by simp [Value.oneCell']) (by unfold maxLen; omega) (by omega) (by have := hB.size; simp; omega) ?_; intro v' w1 hown' hgrow _))
        have hB1 := hB.alloc hB.size (.cells #[.int .i64 1, .int .i64 6, .int .i64 0, .int .i64 0, .int .i64 0, .string ⟨#[120]⟩] 45)
        refine ⟨⟨k + 1, by omega, by go_num, ⟨_, rfl, ?_⟩, hB1.grown hgrow hB1.size (fun j e => own_base hrow2 e)⟩, by simp [RowKit.intOf]; omega⟩
        rw [hs1.out]
        simpa [encIt, glueI, xI, emp] using hown'
      · obtain rfl : k = 0 := by omega
        have hs1 := hid (show sp (0 + 1) = [xI] from rfl)
        have hsp : (sp 0).length ≤ 20 := by decide
        obtain ⟨pu, cu, rfl, hu1, hu2⟩ := owns_shape hrow
        unfold maxLen at hu2
        go_wp2_with (at_builtin; go_must (refine wpList_append_own _ rfl _ _ 28 rfl w.heap.size 45 i0 (.agg #[.int .i64 0, .int .i64 0, .int .i64 0, .int .i64 0, .int .i64 0, .string ⟨#[]⟩]) 6 56 Tryd.underlying28 hi hz0 hz1 hz2 rfl (by decide) _ _ _ rfl (hrow.alloc _) ⟨_, 0, none⟩ 1 1 [.int .i64 1, .int .i64 6, .int .i64 0, .int .i64 0, .int .i64 0, .string ⟨#[120]⟩] rfl rfl (cells_new _ _ _) (by simp [Value.oneCell']) (by unfold maxLen; omega) (by omega) (by have := hB.size; simp; omega) ?_; intro v' w1 hown' hgrow _))
        have hB1 := hB.alloc hB.size (.cells #[.int .i64 1, .int .i64 6, .int .i64 0, .int .i64 0, .int .i64 0, .string ⟨#[120]⟩] 45)
        refine ⟨⟨1, by omega, by go_num, ⟨_, rfl, ?_⟩, hB1.grown hgrow hB1.size (fun j e => own_base hrow e)⟩, by simp [RowKit.intOf]; omega⟩
        rw [show sp 1 = [xI] from rfl]
        simpa [encIt, xI, sp] using hown'
    · obtain rfl : k = N := by omega
      obtain ⟨pu, cu, rfl, hu1, hu2⟩ := owns_shape hrow
      have hl := sl_of_owns (enc := encIt) (fun _ _ => rfl) hrow
      have hsl := sp_len k (by omega)
      have hchk := chk_all (k - 2) (by omega) (b % 100).toNat (by omega)
      rw [show k - 2 + 2 = k by omega] at hchk
      obtain ⟨D, hD, hD1⟩ : ∃ D : Nat, b % 100 = D ∧ D < 100 := ⟨(b % 100).toNat, by omega, by omega⟩
      rw [show (b % 100).toNat = D by omega] at hchk
      unfold maxLen at hu2
      have hgood : ∀ n, ∀ x ∈ sp n, x.ok := by
        intro n
        induction n with
        | zero => intro x hx; cases hx
        | succ n ih =>
          intro x hx
          unfold sp at hx
          have e1 : glueI.ok := ⟨by constructor <;> decide, by constructor <;> decide, by constructor <;> decide, by constructor <;> decide, by constructor <;> decide⟩
          have e2 : xI.ok := ⟨by constructor <;> decide, by constructor <;> decide, by constructor <;> decide, by constructor <;> decide, by constructor <;> decide⟩
          rcases List.mem_append.1 hx with hx | hx
          · rcases List.mem_append.1 hx with hx | hx
            · exact ih x hx
            · split at hx
              · obtain rfl : x = _ := by simpa using hx
                exact e1
              · cases hx
          · obtain rfl : x = _ := by simpa using hx
            exact e2
      have cP := hid (SLine_any _ (sp k) (-1) (sp k).length (6 * k + 4 * (k - 1) + D) false wr hl (by omega) (by constructor <;> decide) (by constructor <;> omega) (by constructor <;> omega) (hgood k))
      have cQ := hid (fun w' (h : Below wr.heap.size wr w') => SLine_any _ (sp k) (-1) (sp k).length (6 * k + 4 * (k - 1) + D) true w' ((Kept.of_below h 0).sl hl) (by omega) (by constructor <;> decide) (by constructor <;> omega) (by constructor <;> omega) (hgood k))
      have hT1 := hid (hT.below hB)
      replace hB := hid hB
      clear hl hrow hgood hT
      unfold chk at hchk
      dsimp only at hchk
      generalize setL (sp k) (-1) (sp k).length (6 * k + 4 * (k - 1) + D) false = P at *
      generalize setL (sp k) (-1) (sp k).length (6 * k + 4 * (k - 1) + D) true = Q at *
      simp only [Bool.and_eq_true, beq_iff_eq, decide_eq_true_eq] at hchk
      obtain ⟨⟨⟨⟨⟨⟨⟨⟨c1, c2⟩, c3⟩, c4⟩, c5⟩, c6⟩, c7⟩, c8⟩, c9⟩ := hchk
      have fP := hid (fine_all c2)
      have fQ := hid (fine_all c4)
      clear c2 c4
      replace c5 := hid c5
      replace c6 := hid c6
      replace c7 := hid c7
      replace c8 := hid c8
      replace c9 := hid c9
      go_wp2_with (fail)
      refine cP.out.mono ?_
      rintro e w1 ⟨u, rfl, hu, B1⟩
      have hw1 := hid (cQ.out)
      clear cP
      obtain ⟨bp, op, cp, rfl, h1, h2, h3⟩ := hu.open (by rintro rfl; simp at c1; omega)
      have hu' := hid hu
      clear hu
      replace h3 := hid h3
      unfold maxLen at h2
      replace cQ := hid cQ
      go_wp2_with (fail)
      clear hw1
      go_loopw [11, 12, 13] (fun le mo i wx => ∃ m nd : Nat, m + 1 ≤ k ∧ i = .int .i64 ((m : Int) + 1) ∧ le = .int .i64 (leastF P (m + 1)) ∧ mo = .int .i64 (mostF P (m + 1)) ∧ wx = w1.drewN nd) (fun _ _ i _ => k - (RowKit.intOf i).toNat)
      case atStart => exact ⟨0, 0, by omega, rfl, rfl, rfl, rfl⟩
      case round =>
        obtain ⟨m, nd, hm, rfl, rfl, rfl, rfl⟩ := hrel
        by_cases hmk : m + 1 < k
        · have hlt1 : m + 1 < P.length := by omega
          obtain ⟨x1, -⟩ := piece_cells (h3.out (m + 1) P[m + 1] (List.getElem?_eq_getElem hlt1))
          obtain ⟨x2, -⟩ := piece_cells (h3.out m P[m] (List.getElem?_eq_getElem (by omega)))
          have q1 := (fP.out _ (List.getElem_mem hlt1)).1
          have q2 := (fP.out _ (List.getElem_mem (show m < P.length by omega))).1
          have e1 : xs P (m + 1) = P[m + 1].1 := by simp [xs, List.getD, hlt1]
          have e2 : xs P m = P[m].1 := by simp [xs, List.getD, show m < P.length by omega]
          have hg : gap P (m + 1) = P[m + 1].1 - P[m].1 - 6 := by unfold gap; rw [e1, show m + 1 - 1 = m by omega, e2]
          have hL := hid (show leastF P (m + 2) = min (leastF P (m + 1)) (P[m + 1].1 - P[m].1 - 6) by rw [leastF, if_neg (by omega), hg])
          have hG := hid (show mostF P (m + 2) = max (mostF P (m + 1)) (P[m + 1].1 - P[m].1 - 6) by rw [mostF, if_neg (by omega), hg])
          clear e1 e2 hg
          generalize P[m + 1].1 = X at *
          generalize P[m].1 = Y at *
          generalize leastF P (m + 1) = le at *
          generalize mostF P (m + 1) = mo at *
          have k1 : (m : Int) + 1 < (P.length : Int) := by omega
          have k2 : (m : Int) < (P.length : Int) := by omega
          have k3 : ((m : Int) + 1).toNat = m + 1 := by omega
          have r0 : IntKind.i64.wrap ((m : Int) + 1 - 1) = m := by rw [show (m : Int) + 1 - 1 = m by omega]; exact IntWalk.i64_in _ (by omega)
          have r1 : IntKind.i64.wrap (X - Y) = X - Y := IntWalk.i64_in _ (by omega)
          have r2 : IntKind.i64.wrap (X - Y - 6) = X - Y - 6 := IntWalk.i64_in _ (by omega)
          go_wp2
          go_quiet (fail)
          clear r0 r1 r2
          go_wp2
          refine ⟨⟨m + 1, nd + nq, by omega, by go_num, by rw [hL.out], by rw [hG.out], rfl⟩, by simp [RowKit.intOf]; omega⟩
        · have hk' : m + 1 = k := by omega
          rw [hk']
          have hB2 : Below wr.heap.size wr (w1.drewN nd) := B1.drewN nd
          have cq := hid (cQ.out _ hB2)
          have hp := (Kept.drewN 0 w1 nd).sl hu'.out
          have hne : P ≠ [] := by rintro rfl; simp at c1; omega
          have hlastP : endW tw P = 6 * k + 4 * (k - 1) + D := (endW_last c1 (by omega) (fun p hp => (fP.out p hp).2)).trans c7.out
          have hlastQ : endW tw Q = 6 * k + 4 * (k - 1) := (endW_last c3 (by omega) (fun p hp => (fQ.out p hp).2)).trans c8.out
          have e0 : P[0].1 = 0 := by have := c9.out; simpa [xs, List.getD, show 0 < P.length by omega] using this
          have cWP := fun w' (h : Sl w' 2 encPc (.slice (some ⟨bp, op, none⟩) P.length cp) P) (hT : Tabs w') => Wide_any _ P w' h (fun p hp => by have := fP.out p hp; rw [this.2]; exact ⟨by omega, by omega, by decide⟩) hT
          have cWQ := fun v w' (h : Sl w' 2 encPc v Q) (hT : Tabs w') => Wide_any v Q w' h (fun p hp => by have := fQ.out p hp; rw [this.2]; exact ⟨by omega, by omega, by decide⟩) hT
          rw [hlastP] at cWP
          rw [c1] at cWP
          rw [hlastQ] at cWQ
          replace cWP := hid cWP
          replace cWQ := hid cWQ
          have hT2 := hid (hT1.out.below hB2)
          have hB3 := hid (hB.out.trans (hB2.mono hB.out.size))
          have c5' := c5.out
          have c6' := c6.out
          have b1' := leastF_le P k
          have b2' := le_mostF P k
          replace hp := hid hp
          clear hu' h3 B1 cQ fP fQ hlastP hlastQ hne c5 c6 c7 c8 c9 hT1 hB hB2
          have hWb : 0 ≤ 6 * (k : Int) + 4 * ((k : Int) - 1) ∧ 6 * (k : Int) + 4 * ((k : Int) - 1) ≤ 96 := by omega
          generalize 6 * (k : Int) + 4 * ((k : Int) - 1) = WW at *
          generalize leastF P k = le at *
          generalize mostF P k = mo at *
          generalize w1.drewN nd = w2 at *
          go_wp2_with (fail)
          refine cq.out.mono ?_
          rintro e w3 ⟨v, rfl, hq, B3⟩
          have hp3 := (Kept.of_below B3 0).sl hp.out
          have hT3 := hid (hT2.out.below B3)
          have hB4 := hid (hB3.out.trans (B3.mono hB3.out.size))
          clear cq hp hT2 hB3 B3
          obtain ⟨b', o', c', he, -, -, h4⟩ := hp3.open (by rintro rfl; simp at c1; omega)
          cases he
          have x0 := (piece_cells (h4 0 P[0] (List.getElem?_eq_getElem (by omega)))).1
          clear h4
          rw [e0] at x0
          simp only [Nat.zero_mul, Nat.add_zero] at x0
          rw [c1] at hp3
          replace hq := hid hq
          replace hp3 := hid hp3
          go_wp2_with (fail)
          refine (cWP.out _ hp3.out hT3.out).mono ?_
          rintro e w4 ⟨rfl, B4⟩
          have hq4 := hid ((Kept.of_below B4 0).sl hq.out)
          have x0' := (Kept.of_below B4 0).cell x0
          have hT4 := hid (hT3.out.below B4)
          have hB5 := hid (hB4.out.trans (B4.mono hB4.out.size))
          clear hq x0 hT3 hB4 B4 hp3
          go_wp2_with (fail)
          refine (cWQ.out _ _ hq4.out hT4.out).mono ?_
          rintro e w5 ⟨rfl, B5⟩
          have x1 := (Kept.of_below B5 0).cell x0'
          have c18 := hid (wakes18 w5 (hT4.out.below B5))
          have hB6 := hid (hB5.out.trans (B5.mono hB5.out.size))
          clear hq4 x0' hT4 hB5 B5 cWP cWQ
          go_wp2_with (fail)
          refine c18.out.mono ?_
          rintro e w6 ⟨rfl, B6⟩
          go_wp2
          go_ret
          exact ⟨rfl, hB6.out.trans (B6.mono hB6.out.size)⟩
end Go.Proofs.YtgakaomcdpgnkaaDoor
