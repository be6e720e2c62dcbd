/- The walks of Fair (items) and of the reference's N, Breaks. -/
import Derived.Test.YtgakaomcdpgnkaaDoorSetF
import Derived.Test.YtgakaomcdpgnkaaDoorSetD
import Derived.Test.YtgakaomcdpgnkaaDoorSetI
import Derived.Test.YtgakaomcdpgnkaaDoorHypS
namespace Go.Proofs.YtgakaomcdpgnkaaDoor
open Go.RowKit Go.Shelf

/-- what Fair answers: a yes has a bound -/
def fairE (l : List It) (e : Ending) : Prop := ∃ b : Bool, e = .returned (.bool b) ∧ (b = true → l.length ≤ 700)

set_option maxRecDepth 100000 in
set_option maxHeartbeats 4000000 in
theorem Fair_any (v : Value) (l : List It) (w : World) (hl : Sl w 6 encIt v l) (hsz : ∀ x ∈ l, x.text.size ≤ 100000000) :
    Calls Tryd.prog 9 #[v] w fun e w' => fairE l e ∧ w' = w := by
  obtain ⟨p, c, rfl, hla⟩ := hl.shape
  unfold maxLen at hla
  go_enter Tryd.func9, Tryd.ntmps9
  go_wp2_with (fail)
  go_loopw [3, 4] (fun n i wr => ∃ (k : Nat) (m : Int), k ≤ l.length ∧ i = .int .i64 k ∧ n = .int .i64 m ∧ 0 ≤ m ∧ m ≤ 2000 ∧ wr = w) (fun _ i _ => l.length - (RowKit.intOf i).toNat)
  case atStart => exact ⟨0, 0, by omega, rfl, rfl, by omega, by omega, rfl⟩
  case round =>
    obtain ⟨k, m, hk, rfl, rfl, hm0, hm1, rfl⟩ := hrel
    by_cases hkl : k < l.length
    · have hkI : (k : Int) < l.length := by omega
      obtain ⟨b, o, cap, e1, e2, e3, e4⟩ := hl.open (by rintro rfl; simp at hkl)
      simp only [Value.slice.injEq] at e1
      obtain ⟨rfl, -, rfl⟩ := e1
      obtain ⟨-, -, -, -, -, x6⟩ := item_cells (e4 k l[k] (List.getElem?_eq_getElem hkl))
      have hs := hsz l[k] (List.getElem_mem _)
      generalize l[k].text = T at *
      clear e4
      obtain ⟨y, hy⟩ : ∃ y : Int, min (T.size : Int) 2001 = y := ⟨_, rfl⟩
      have hif : (if (2001 : Int) < T.size then 2001 else (T.size : Int)) = y := by rw [← hy]; split <;> omega
      have hif2 : (if (T.size : Int) < 2001 then (T.size : Int) else 2001) = y := by rw [← hy]; split <;> omega
      have hif3 : (if (T.size : Int) ≤ 2001 then (T.size : Int) else 2001) = y := by rw [← hy]; split <;> omega
      have hy0 : 0 ≤ y ∧ y ≤ 2001 := by omega
      have hwy : IntKind.i64.wrap (m + y) = m + y := IntWalk.i64_in _ (by omega)
      clear hy
      by_cases h2 : 2000 < m + y
      · go_wp2_with (fail)
        go_ret
        exact ⟨⟨false, rfl, fun h => (by cases h)⟩, rfl⟩
      · go_wp2_with (fail)
        exact ⟨⟨k + 1, m + y, by omega, by go_num, rfl, by omega, by omega, trivial⟩, by simp [RowKit.intOf]; omega⟩
    · obtain rfl : k = l.length := by omega
      by_cases h7 : (l.length : Int) ≤ 700
      · go_wp2_with (fail)
        go_ret
        exact ⟨⟨true, rfl, fun _ => by omega⟩, rfl⟩
      · go_wp2_with (fail)
        go_ret
        exact ⟨⟨false, rfl, fun h => (by cases h)⟩, rfl⟩


set_option maxRecDepth 100000 in
set_option maxHeartbeats 4000000 in
theorem Breaks_any (v : Value) (l : List It) (w : World) (hl : Sl w 6 encIt v l) (hle : l.length ≤ 5000) (hok : ∀ x ∈ l, x.ok) :
    Calls Tryd.prog 11 #[v] w fun e w' => ∃ x, e = .returned x ∧ Sl w' 1 encI x (brk l) ∧ Below w.heap.size w w' := by
  obtain ⟨p, c, rfl, hla⟩ := hl.shape
  unfold maxLen at hla
  have hbe := hid (show brk l = brks l l.length ++ [(l.length : Int)] from rfl)
  generalize brk l = BR at *
  obtain ⟨i0, hi, hz0, hz1, hz2⟩ := info_parts Tryd.infoI
  go_enter Tryd.func11, Tryd.ntmps11
  go_wp2_with (fail)
  go_loopw [3, 4] (fun o i wr => ∃ k : Nat, k ≤ l.length ∧ i = .int .i64 k ∧ (∃ u, o = u ∧ wr.ownsRow w.heap.size 3 1 u (brks l k).length ((brks l k).flatMap encI)) ∧ Below w.heap.size w wr) (fun _ i _ => l.length - (RowKit.intOf i).toNat)
  case atStart => exact ⟨0, by omega, rfl, ⟨_, rfl, World.ownsRow_nil _ _ _ _⟩, Below.refl _ _⟩
  case round =>
    obtain ⟨k, hk, rfl, ⟨_, rfl, hrow⟩, hB⟩ := hrel
    obtain ⟨pv, cv, rfl, hv1, hv2⟩ := owns_shape hrow
    unfold maxLen at hv2
    have hbl := brks_len l k
    by_cases hkl : k < l.length
    · have hkI : (k : Int) < l.length := by omega
      obtain ⟨b, o, cap, e1, e2, e3, e4⟩ := ((Kept.of_below hB 0).sl hl).open (by rintro rfl; simp at hkl)
      simp only [Value.slice.injEq] at e1
      obtain ⟨rfl, -, rfl⟩ := e1
      obtain ⟨x1, -, x3, -⟩ := item_cells (e4 k l[k] (List.getElem?_eq_getElem hkl))
      obtain ⟨-, -, ho, -⟩ := hok l[k] (List.getElem_mem _)
      have cN := hid (fun w' => N_any l[k].y w' ho)
      have hat : brkAt l k = (l[k].kind == 3 || (l[k].kind == 2 && decide (0 < plain l[k].y) && decide (0 < k) && (match l[k - 1]? with | some y => y.kind == 1 | none => false))) := by
        unfold brkAt; rw [List.getElem?_eq_getElem hkl]; rfl
      have hprev : 0 < k → ∃ pk : Int, wr.cell? ⟨b, o + (k - 1) * 6, none⟩ = some (.int .i64 pk) ∧ (match l[k - 1]? with | some y => y.kind == 1 | none => false) = (pk == 1) := by
        intro h0
        have hlt : k - 1 < l.length := by omega
        obtain ⟨y1, -⟩ := item_cells (e4 (k - 1) l[k - 1] (List.getElem?_eq_getElem hlt))
        exact ⟨_, y1, by rw [List.getElem?_eq_getElem hlt]⟩
      have hhit := fun h => @brks_hit l k h
      have hmiss := fun h => @brks_miss l k h
      clear e4 hok ho
      generalize l[k].kind = kd at *
      generalize plain l[k].y = py at *
      generalize l[k].y = yy at *
      generalize hm : (match l[k - 1]? with | some y => y.kind == 1 | none => false) = mm at *
      by_cases c3 : kd = 3
      · subst c3
        have hq := hid (hhit (by rw [hat]; simp))
        clear hat hmiss hhit
        go_wp2_with (at_builtin; go_must (refine wpList_append_own _ rfl _ _ 32 rfl w.heap.size 3 i0 (.int .i64 0) 1 8 Tryd.underlying32 hi hz0 hz1 hz2 rfl (by decide) _ (brks l k).length _ rfl (hrow.alloc _) ⟨_, 0, none⟩ 1 1 [.int .i64 k] rfl rfl (cells_new _ _ _) (by simp [Value.oneCell']) (by unfold maxLen; omega) (by omega) (by have := hB.size; simp; omega) ?_; intro v' w2 hown' hgrow _))
        have hB2 := hB.alloc hB.size (.cells #[.int .i64 k] 3)
        refine ⟨⟨k + 1, by omega, by go_num, ⟨_, rfl, ?_⟩, hB2.grown hgrow hB2.size (fun j e => own_base hrow e)⟩, by simp [RowKit.intOf]; omega⟩
        rw [hq.out]; simpa [encI] using hown'
      · by_cases c2 : kd = 2
        · subst c2
          by_cases cp : 0 < py
          · by_cases c0 : 0 < k
            · obtain ⟨pk, hc, he⟩ := hprev c0
              have hk1 : (0 : Int) ≤ k - 1 := by omega
              have hk2 : (k : Int) - 1 < l.length := by omega
              have hk3 : ((k : Int) - 1).toNat = k - 1 := by omega
              have hk4 : (0 : Int) < k := by omega
              subst he
              by_cases c1 : pk = 1
              · subst c1
                have hq := hid (hhit (by rw [hat]; simp [cp, c0]))
                clear hat hmiss hhit
                go_wp2_with (fail)
                refine (cN.out _).mono ?_
                rintro e w' ⟨rfl, rfl⟩
                go_wp2_with (at_builtin; go_must (refine wpList_append_own _ rfl _ _ 32 rfl w.heap.size 3 i0 (.int .i64 0) 1 8 Tryd.underlying32 hi hz0 hz1 hz2 rfl (by decide) _ (brks l k).length _ rfl (hrow.alloc _) ⟨_, 0, none⟩ 1 1 [.int .i64 k] rfl rfl (cells_new _ _ _) (by simp [Value.oneCell']) (by unfold maxLen; omega) (by omega) (by have := hB.size; simp; omega) ?_; intro v' w2 hown' hgrow _))
                have hB2 := hB.alloc hB.size (.cells #[.int .i64 k] 3)
                refine ⟨⟨k + 1, by omega, by go_num, ⟨_, rfl, ?_⟩, hB2.grown hgrow hB2.size (fun j e => own_base hrow e)⟩, by simp [RowKit.intOf]; omega⟩
                rw [hq.out]; simpa [encI] using hown'
              · 
                have hq := hid (hmiss (by rw [hat]; simp [c1]))
                clear hat hmiss hhit
                go_wp2_with (fail)
                refine (cN.out _).mono ?_
                rintro e w' ⟨rfl, rfl⟩
                go_wp2_with (fail)
                exact ⟨⟨k + 1, by omega, by go_num, ⟨_, rfl, by rw [hq.out]; exact hrow⟩, hB⟩, by simp [RowKit.intOf]; omega⟩
            · obtain rfl : k = 0 := by omega
              simp only [Nat.zero_mul, Nat.add_zero] at x1 x3
              have hq := hid (hmiss (by rw [hat]; simp))
              clear hat hmiss hhit
              go_wp2_with (fail)
              refine (cN.out _).mono ?_
              rintro e w' ⟨rfl, rfl⟩
              go_wp2_with (fail)
              exact ⟨⟨0 + 1, by omega, by go_num, ⟨_, rfl, by rw [hq.out]; exact hrow⟩, hB⟩, by simp [RowKit.intOf]; omega⟩
          · 
            have hq := hid (hmiss (by rw [hat]; simp [cp]))
            clear hat hmiss hhit
            go_wp2_with (fail)
            refine (cN.out _).mono ?_
            rintro e w' ⟨rfl, rfl⟩
            go_wp2_with (fail)
            exact ⟨⟨k + 1, by omega, by go_num, ⟨_, rfl, by rw [hq.out]; exact hrow⟩, hB⟩, by simp [RowKit.intOf]; omega⟩
        · 
          have hq := hid (hmiss (by rw [hat]; simp [c3, c2]))
          clear hat hmiss hhit
          go_wp2_with (fail)
          exact ⟨⟨k + 1, by omega, by go_num, ⟨_, rfl, by rw [hq.out]; exact hrow⟩, hB⟩, by simp [RowKit.intOf]; omega⟩
    · obtain rfl : k = l.length := by omega
      have hown1 := hrow
      go_wp2_with (at_builtin; go_must (refine wpList_append_own _ rfl _ _ 32 rfl w.heap.size 3 i0 (.int .i64 0) 1 8 Tryd.underlying32 hi hz0 hz1 hz2 rfl (by decide) _ (brks l l.length).length _ rfl (hrow.alloc _) ⟨_, 0, none⟩ 1 1 [.int .i64 l.length] rfl rfl (cells_new _ _ _) (by simp [Value.oneCell']) (by unfold maxLen; omega) (by omega) (by have := hB.size; simp; omega) ?_; intro v' w2 hown' hgrow _))
      go_ret
      have hB2 := hB.alloc hB.size (.cells #[.int .i64 l.length] 3)
      refine ⟨_, rfl, ?_, hB2.grown hgrow hB2.size (fun j e => own_base hrow e)⟩
      rw [hbe.out]
      refine sl_of_owns (e := 3) (base := w.heap.size) (fun _ _ => rfl) ?_
      simpa [encI] using hown'
end Go.Proofs.YtgakaomcdpgnkaaDoor
