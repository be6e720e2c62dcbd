/- The walk of spelled. -/
import Derived.Test.YtgakaomcdpgnkaaDoorEndA
import Derived.Test.YtgakaomcdpgnkaaDoorMetB
import Derived.Test.YtgakaomcdpgnkaaDoorLaw2
namespace Go.Proofs.YtgakaomcdpgnkaaDoor
open Go.RowKit Go.Shelf

theorem Tryd.infoIu : (Tryd.prog.info? 45).map (fun i => (i.zero, i.size, i.bytes)) = some (some (.agg #[.int .i64 0, .int .i64 0, .int .i64 0, .int .i64 0, .int .i64 0, .string ⟨#[]⟩]), 6, 56) := by kernel_rfl
noncomputable def tq (s : ByteArray) : Int := sumw (sgn s.data.toList)
theorem tq_bd (s : ByteArray) : 0 ≤ tq s ∧ tq s ≤ 10 * s.size := by
  have h1 := sumw_bd (sgn s.data.toList)
  have h2 := sgn_len s
  unfold tq; omega
theorem tq_x : tq ⟨#[120]⟩ = 6 := by
  unfold tq
  rw [show sgn (ByteArray.mk #[120]).data.toList = [120] from sgn_of (by decide) (by decide)]; decide

theorem spell_len (ind : List It) (ws : List ByteArray) (hi : ind.length ≤ 1) : ∀ k, (spell tq ind ws k).length ≤ 4 * k + 1 := by
  intro k
  induction k with
  | zero => exact hi
  | succ k ih =>
    unfold spell
    simp only [List.length_append]
    split <;> split <;> simp <;> omega
def okx (x : It) : Prop := x.ok ∧ x.text.size ≤ 40
theorem spell_ok (ind : List It) (ws : List ByteArray) (hi : ∀ x ∈ ind, okx x) (hw : ∀ s ∈ ws, s.size ≤ 40) : ∀ k, k ≤ ws.length → ∀ x ∈ spell tq ind ws k, okx x := by
  have lit : ∀ x : It, (x = glueI ∨ x = penI ∨ x = xI) → okx x := by
    rintro x (rfl | rfl | rfl) <;> simp [okx, It.ok, w64, glueI, penI, xI, emp, ByteArray.size]
  intro k
  induction k with
  | zero => exact fun _ => hi
  | succ k ih =>
    intro hk x hx
    unfold spell at hx
    simp only [List.mem_append] at hx
    rcases hx with ((hx | hx) | hx) | hx
    · exact ih (by omega) x hx
    · split at hx
      · exact lit x (.inl (by simpa using hx))
      · cases hx
    · obtain rfl : x = boxI tq (ws.getD k emp) := by simpa using hx
      have e : ws.getD k emp = ws[k] := by rw [List.getD_eq_getElem?_getD, List.getElem?_eq_getElem (by omega)]; rfl
      have h1 := hw ws[k] (List.getElem_mem _)
      have h2 := tq_bd ws[k]
      rw [e]
      refine ⟨⟨?_, ?_, ?_, ?_, ?_⟩, h1⟩ <;> (unfold w64 boxI; simp only []; omega)
    · split at hx
      · rcases List.mem_cons.1 hx with rfl | hx
        · exact lit _ (.inr (.inl rfl))
        · exact lit _ (.inr (.inr (by simpa using hx)))
      · cases hx

theorem Below_dr {n : Nat} {a w : World} (h : Below n a w) : Below n a w.drew := ⟨h.os, h.tape, h.output, h.size, h.block⟩
/-- what spelled answers -/
def spE (e : Ending) (w' : World) : Prop := ∃ (v : Value) (l : List It), e = .returned v ∧ Sl w' 6 encIt v l ∧ l.length ≤ 200 ∧ (∀ x ∈ l, okx x) ∧ (l ≠ [] → Lp tq l)

set_option maxRecDepth 100000 in
set_option maxHeartbeats 4000000 in
theorem spelled_any (kind : Int) (wv : Value) (ws : List ByteArray) (a b c d ind : Int) (w : World) (hl : Sl w 1 encS wv ws) (hs : ∀ s ∈ ws, s.size ≤ 2000000) (hi : w64 ind) :
    Calls Tryd.prog 8 #[.agg #[.int .i64 kind, wv], .agg #[.int .i64 a, .int .i64 b, .int .i64 c, .int .i64 d, .int .i64 ind]] w fun e w' => spE e w' ∧ Below w.heap.size w w' := by
  obtain ⟨pw, cw, rfl, hwl⟩ := hl.shape
  obtain ⟨i0, hi0, hz0, hz1, hz2⟩ := info_parts Tryd.infoIu
  have nil : ∀ w', spE (.returned (.slice none 0 0)) w' := fun w' => ⟨_, [], rfl, .inl ⟨rfl, rfl⟩, by simp, by simp, fun h => absurd rfl h⟩
  replace nil := hid nil
  obtain ⟨hi1, hi2⟩ := hi
  go_enter Tryd.func8, Tryd.ntmps8
  by_cases c0 : ws = []
  · subst c0
    go_wp2_with (fail)
    go_ret
    exact ⟨nil.out _, ((Below.refl _ _).alloc (Nat.le_refl _) _).alloc (by simp) _⟩
  · have hlp : 0 < ws.length := List.length_pos_iff.2 c0
    have hlpI : ¬ (ws.length : Int) = 0 := by omega
    by_cases c1 : (40 : Int) < ws.length
    · go_wp2_with (fail)
      go_ret
      exact ⟨nil.out _, ((Below.refl _ _).alloc (Nat.le_refl _) _).alloc (by simp) _⟩
    · by_cases c2 : kind = 1 ∧ 30 < ind
      · obtain ⟨rfl, c3⟩ := c2
        go_wp2_with (fail)
        go_ret
        exact ⟨nil.out _, ((Below.refl _ _).alloc (Nat.le_refl _) _).alloc (by simp) _⟩
      · have hB0 := ((Below.refl w.heap.size w).alloc (Nat.le_refl _) (.cells #[.int .i64 kind, .slice pw ws.length cw] 24)).alloc (by simp) (.cells #[.int .i64 a, .int .i64 b, .int .i64 c, .int .i64 d, .int .i64 ind] 26)
        have hp := (Kept.alloc 0 (w.alloc (.cells #[.int .i64 kind, .slice pw ws.length cw] 24)) (.cells #[.int .i64 a, .int .i64 b, .int .i64 c, .int .i64 d, .int .i64 ind] 26)).same _ _ (World.alloc_heap_new w (.cells #[.int .i64 kind, .slice pw ws.length cw] 24)) (.inl rfl)
        have hst := World.alloc_heap_new (w.alloc (.cells #[.int .i64 kind, .slice pw ws.length cw] 24)) (.cells #[.int .i64 a, .int .i64 b, .int .i64 c, .int .i64 d, .int .i64 ind] 26)
        rw [World.size_alloc] at hst
        have hz : ((w.alloc (.cells #[.int .i64 kind, .slice pw ws.length cw] 24)).alloc (.cells #[.int .i64 a, .int .i64 b, .int .i64 c, .int .i64 d, .int .i64 ind] 26)).heap.size = w.heap.size + 2 := by simp
        have hl2 := (Kept.of_below hB0 0).sl hl
        have c4 : ¬ kind = 1 ∨ ind ≤ 30 := by omega
        generalize hP : w.heap.size = P at *
        obtain ⟨kb, hkb⟩ : ∃ kb : Bool, decide (kind = 1 ∧ 0 < ind) = kb := ⟨_, rfl⟩
        obtain ⟨il, hil⟩ : ∃ il, (if kb = true then [indI ind] else []) = il := ⟨_, rfl⟩
        have hil1 : il.length ≤ 1 := by rw [← hil]; split <;> simp
        have hilp : il = [] ∨ ∃ n : Int, 0 ≤ n ∧ n ≤ 10000 ∧ il = [indI n] := by
          rw [← hil]
          cases kb
          · exact .inl rfl
          · have := of_decide_eq_true hkb
            exact .inr ⟨ind, by omega, by omega, rfl⟩
        have hilo : ∀ x ∈ il, okx x := by
          rw [← hil]
          cases kb
          · intro x hx; cases hx
          · intro x hx
            obtain rfl : x = indI ind := by simpa using hx
            refine ⟨⟨?_, ?_, ?_, ?_, ?_⟩, ?_⟩ <;> simp [w64, indI, emp, ByteArray.size] <;> omega
        obtain ⟨B, hBd⟩ : ∃ B, B = P + 2 := ⟨_, rfl⟩
        have c5 : kind = 1 → ¬ 30 < ind := fun h h2 => c2 ⟨h, h2⟩
        go_upto_region 1 with (fail)
        generalize (w.alloc (.cells #[.int .i64 kind, .slice pw ws.length cw] 24)).alloc (.cells #[.int .i64 a, .int .i64 b, .int .i64 c, .int .i64 d, .int .i64 ind] 26) = wA at *
        have p0 := cell_blk hp (i := 0) rfl
        have p1 := cell_blk hp (i := 1) rfl
        have s4 := cell_blk hst (i := 4) rfl
        rw [← hBd] at hz
        have hzA : B ≤ wA.heap.size := by omega
        have hzB : wA.heap.size ≤ B := by omega
        clear hz
        go_cut [26] (fun c wx => c = .bool false ∧ wx = wA)
        case first =>
          by_cases k1 : kind = 1
          · have k2 := c5 k1
            subst k1
            go_wp2_with (fail)
            go_meet
            exact ⟨by simp; omega, rfl⟩
          · go_wp2_with (fail)
            go_meet
            exact ⟨by simp; omega, rfl⟩
        case rest =>
          obtain ⟨rfl, hwc⟩ := hcut
          rw [hwc]
          clear hwc
          go_upto_region 4 with (fail)
          go_cut [34] (fun c wx => c = .bool kb ∧ wx = wA)
          case first =>
            by_cases k1 : kind = 1
            · subst k1
              go_wp2_with (fail)
              go_meet
              exact ⟨by rw [← hkb]; simp, rfl⟩
            · go_wp2_with (fail)
              go_meet
              exact ⟨by rw [← hkb]; simp [k1], rfl⟩
          case rest =>
            obtain ⟨rfl, hwc⟩ := hcut
            rw [hwc]
            clear hwc
            go_upto_if 34 with (fail)
            go_cut [5] (fun v wx => ∃ u, v = u ∧ wx.ownsRow B 45 6 u il.length (il.flatMap encIt) ∧ Below B wA wx)
            case first =>
              have r0 := World.ownsRow_nil wA B 45 6
              cases kb
              · go_wp2_with (fail)
                go_meet
                exact ⟨_, rfl, by rw [← hil]; exact World.ownsRow_nil _ _ _ _, Below.refl _ _⟩
              · go_wp2_with (at_builtin; go_must (refine wpList_append_own _ rfl _ _ 28 rfl B 45 i0 (.agg #[.int .i64 0, .int .i64 0, .int .i64 0, .int .i64 0, .int .i64 0, .string ⟨#[]⟩]) 6 56 Tryd.underlying28 hi0 hz0 hz1 hz2 rfl (by decide) _ _ _ rfl (r0.alloc _) ⟨_, 0, none⟩ 1 1 [.int .i64 1, .int .i64 ind, .int .i64 0, .int .i64 0, .int .i64 0, .string ⟨#[]⟩] rfl rfl (cells_new _ _ _) (by simp [Value.oneCell']) (by unfold maxLen; omega) (by omega) (by simp; omega) ?_; intro v' w7 hown' hgrow _))
                go_meet
                refine ⟨_, rfl, ?_, ((Below.refl B wA).alloc (by omega) _).grown hgrow (by simp; omega) (fun j e => own_base r0 e)⟩
                rw [← hil]
                simpa [encIt, indI, emp] using hown'
            case rest =>
              obtain ⟨u0, rfl, hrow0, hBA⟩ := hcut
              go_wp2_with (fail)
              go_loopw [5, 6] (fun v i wr => ∃ k : Nat, k ≤ ws.length ∧ i = .int .i64 k ∧ (∃ u, v = u ∧ wr.ownsRow B 45 6 u (spell tq il ws k).length ((spell tq il ws k).flatMap encIt)) ∧ (∀ s ∈ ws.take k, s.size ≠ 0 ∧ s.size ≤ 40) ∧ Below B wA wr) (fun _ i _ => ws.length - (RowKit.intOf i).toNat)
              case atStart => exact ⟨0, by omega, rfl, ⟨_, rfl, hrow0⟩, by simp, hBA⟩
              case round =>
                obtain ⟨k, hk, rfl, ⟨_, rfl, hrow⟩, hgood, hB⟩ := hrel
                obtain ⟨pv, cv, rfl, hv1, hv2⟩ := owns_shape hrow
                unfold maxLen at hv2
                have hszB := hB.size
                have hpr := cell_blk ((hB.block P (by omega)).trans hp) (i := 1) rfl
                by_cases hkl : k < ws.length
                · have hkI : (k : Int) < ws.length := by omega
                  obtain ⟨nb, no, cap, e1, e2, e3, e4⟩ := hl2.open c0
                  simp only [Value.slice.injEq] at e1
                  obtain ⟨rfl, -, rfl⟩ := e1
                  have hck := rangeAt_one (e4 k ws[k] (List.getElem?_eq_getElem hkl))
                  rw [Nat.mul_one] at hck
                  have hnlt : nb < wA.heap.size := by
                    cases h5 : wA.heap[nb]? with
                    | none => simp [World.cell?, h5] at hck
                    | some o => exact (Array.getElem?_eq_some_iff.1 h5).1
                  have hckr := (hB.cell (p := ⟨nb, no + k, none⟩) (by simp only []; omega)).trans hck
                  have hsz := hs ws[k] (List.getElem_mem _)
                  have htk : ws.take (k + 1) = ws.take k ++ [ws[k]] := List.take_succ_eq_append_getElem hkl
                  have hgd : ws.getD k emp = ws[k] := by rw [List.getD_eq_getElem?_getD, List.getElem?_eq_getElem hkl]; rfl
                  have hsp : spell tq il ws (k + 1) = spell tq il ws k ++ (if 0 < k then [glueI] else []) ++ [boxI tq (ws.getD k emp)] ++ (if k % 3 = 2 ∧ k + 1 < ws.length then [penI, xI] else []) := rfl
                  rw [hgd] at hsp
                  have hslen := spell_len il ws hil1 k
                  have cT := hid (fun W => RMText_any ws[k] W hsz)
                  have htb := tq_bd ws[k]
                  have hboxd : boxI tq ws[k] = ⟨1, tq ws[k], 0, 0, 0, ws[k]⟩ := rfl
                  rw [hboxd] at hsp
                  change Hid (∀ W, Calls Tryd.prog 15 #[.string ws[k]] W fun e w' => e = .returned (.int .i64 (tq ws[k])) ∧ Below W.heap.size W w') at cT
                  replace htk := hid htk
                  replace hsp := hid hsp
                  clear e4 hgd hboxd
                  generalize tq ws[k] = n at *
                  generalize ws[k] = T at *
                  generalize spell tq il ws k = L0 at *
                  by_cases z0 : T.size = 0
                  · have hemp : T.toList.isEmpty = true := by rw [ByteArray.toList_eq]; rw [List.isEmpty_iff]; exact List.eq_nil_of_length_eq_zero (by rw [Array.length_toList]; exact z0)
                    go_wp2_with (fail)
                    go_ret
                    exact ⟨nil.out _, (by exact hB0.trans (hB.mono (by omega)))⟩
                  · have hemp : T.toList.isEmpty = false := by
                      rw [ByteArray.toList_eq, Bool.eq_false_iff]; intro h; rw [List.isEmpty_iff] at h; apply z0; have : T.data.toList.length = T.size := by rw [Array.length_toList]; rfl
                      rw [← this, h]; rfl
                    go_wp2_with (fail)
                    refine (cT.out _).mono ?_
                    rintro e w3 ⟨rfl, b3⟩
                    have p3 := (b3.cell (p := ⟨P, 1, none⟩) (by simp only []; omega)).trans hpr
                    have t3 := (b3.cell (p := ⟨nb, no + k, none⟩) (by simp only []; omega)).trans hckr
                    have B3 := hB.trans (b3.mono (by omega))
                    have r3 := (Kept.of_below b3 0).owns hrow
                    have z3 := b3.size
                    by_cases z1 : n = 0
                    · subst z1
                      go_wp2_with (fail)
                      go_ret
                      exact ⟨nil.out _, (by exact hB0.trans (B3.mono (by omega)))⟩
                    · have z1b : (n == 0) = false := by simpa using z1
                      by_cases z2 : (40 : Int) < T.size
                      · go_wp2_with (fail)
                        go_ret
                        exact ⟨nil.out _, (by exact hB0.trans (B3.mono (by omega)))⟩
                      · have hgood2 : ∀ s ∈ ws.take (k + 1), s.size ≠ 0 ∧ s.size ≤ 40 := by
                          rw [htk.out]
                          intro s hs2
                          rcases List.mem_append.1 hs2 with h | h
                          · exact hgood s h
                          · obtain rfl : s = T := by simpa using h
                            exact ⟨z0, by omega⟩
                        replace hgood2 := hid hgood2
                        have hnbB : nb < B := by omega
                        have hckA := hck
                        have zB3 : B ≤ w3.heap.size := by omega
                        clear hrow hB b3 hpr hckr hck htk hgood hsz hszB
                        obtain ⟨L1, hL1⟩ : ∃ L1, L0 ++ (if 0 < k then [glueI] else []) = L1 := ⟨_, rfl⟩
                        have hL1s : L1.length ≤ 162 := by rw [← hL1, List.length_append]; split <;> simp <;> omega
                        have hsp1 := hid (hL1 ▸ hsp.out)
                        replace hL1 := hid hL1
                        go_upto_if 73 with (fail)
                        go_cut [5] (fun v wx => ∃ u, v = u ∧ wx.ownsRow B 45 6 u L1.length (L1.flatMap encIt) ∧ Below B wA wx)
                        case first =>
                          by_cases k0 : (0 : Int) < k
                          · go_wp2_with (at_builtin; go_must (refine wpList_append_own _ rfl _ _ 28 rfl B 45 i0 (.agg #[.int .i64 0, .int .i64 0, .int .i64 0, .int .i64 0, .int .i64 0, .string ⟨#[]⟩]) 6 56 Tryd.underlying28 hi0 hz0 hz1 hz2 rfl (by decide) _ _ _ rfl (r3.alloc _) ⟨_, 0, none⟩ 1 1 [.int .i64 2, .int .i64 4, .int .i64 2, .int .i64 1, .int .i64 0, .string ⟨#[]⟩] rfl rfl (cells_new _ _ _) (by simp [Value.oneCell']) (by unfold maxLen; omega) (by omega) (by simp; omega) ?_; intro v' w7 hown' hgrow _))
                            go_meet
                            refine ⟨_, rfl, ?_, (B3.alloc (by omega) _).grown hgrow (by simp; omega) (fun j e => own_base r3 e)⟩
                            rw [← hL1.out, if_pos (by omega), List.length_append, List.flatMap_append]
                            simpa [encIt, glueI, emp] using hown'
                          · go_wp2_with (fail)
                            go_meet
                            refine ⟨_, rfl, ?_, B3⟩
                            rw [← hL1.out, if_neg (by omega), List.append_nil]
                            exact r3
                        case rest =>
                          obtain ⟨u1, rfl, rc, Bc⟩ := hcut
                          have zc := Bc.size
                          obtain ⟨pq, cq, rfl, hq1, hq2⟩ := owns_shape rc
                          unfold maxLen at hq2
                          have pc := cell_blk ((Bc.block P (by omega)).trans hp) (i := 1) rfl
                          have tc := (Bc.cell (p := ⟨nb, no + k, none⟩) (by simp only []; omega)).trans hckA
                          clear r3 B3 p3 t3 hL1
                          go_upto_region 13 with (fail)
                          go_cut [5] (fun v wx => ∃ u, v = u ∧ wx.ownsRow B 45 6 u (L1 ++ [(⟨1, n, 0, 0, 0, T⟩ : It)]).length ((L1 ++ [(⟨1, n, 0, 0, 0, T⟩ : It)]).flatMap encIt) ∧ Below B wA wx)
                          case first =>
                            refine wp_region_any (by kernel_rfl) ?_
                            try (change wpAny _ _ _ _ _ _ _ (World.drew _))
                            refine wpAny_take (i := 0) (oi := ⟨some 78, _, _, _, _, _⟩) (v := ?_) rfl (by kernel_rfl) (by kernel_rfl) (by kernel_rfl) (fun _ _ _ h => h) (Or.inl ⟨by rfl, ?_⟩) ?_
                            rotate_left
                            · intro w; go_simp <;> with_reducible rfl
                            simp only [Act.put, List.setIfInBounds_toArray, List.set_cons_zero, List.set_cons_succ]
                            refine wpAny_take (i := 1) (oi := ⟨some 79, _, _, _, _, _⟩) (v := ?_) rfl (by kernel_rfl) (by kernel_rfl) (by kernel_rfl) (fun _ _ _ h => h) (Or.inl ⟨by rfl, ?_⟩) ?_
                            rotate_left
                            · intro w; go_simp <;> with_reducible rfl
                            simp only [Act.put, List.setIfInBounds_toArray, List.set_cons_zero, List.set_cons_succ]
                            refine wpAny_take (i := 3) (oi := ⟨some 81, _, _, _, _, _⟩) (v := ?_) rfl (by kernel_rfl) (by kernel_rfl) (by kernel_rfl) (fun _ _ _ h => h) (Or.inl ⟨by rfl, ?_⟩) ?_
                            rotate_left
                            · intro w; go_simp <;> with_reducible rfl
                            simp only [Act.put, List.setIfInBounds_toArray, List.set_cons_zero, List.set_cons_succ]
                            refine wpAny_take (i := 7) (oi := ⟨some 85, _, _, _, _, _⟩) (v := ?_) rfl (by kernel_rfl) (by kernel_rfl) (by kernel_rfl) (fun _ _ _ h => h) (Or.inl ⟨by rfl, ?_⟩) ?_
                            rotate_left
                            · intro w; go_simp <;> with_reducible rfl
                            simp only [Act.put, List.setIfInBounds_toArray, List.set_cons_zero, List.set_cons_succ]
                            refine wpAny_take (i := 9) (oi := ⟨some 87, _, _, _, _, _⟩) (v := ?_) rfl (by kernel_rfl) (by kernel_rfl) (by kernel_rfl) (fun _ _ _ h => h) (Or.inl ⟨by rfl, ?_⟩) ?_
                            rotate_left
                            · intro w; go_simp <;> with_reducible rfl
                            simp only [Act.put, List.setIfInBounds_toArray, List.set_cons_zero, List.set_cons_succ]
                            refine wpAny_ready (rs := [2, 8]) (by kernel_rfl) (by simp) ?_
                            refine AllReady.cons rfl (fun K hK => ?_) ?_
                            · go_simp
                              first | refine hK _ _ ?_ | refine ⟨trivial, hK _ _ ?_⟩ | refine ⟨fun _ _ => trivial, hK _ _ ?_⟩
                              clear hK K
                              refine wpAny_take (i := 4) (oi := ⟨some 82, _, _, _, _, _⟩) (v := ?_) rfl (by kernel_rfl) (by kernel_rfl) (by kernel_rfl) (fun _ _ _ h => h) (Or.inl ⟨by rfl, ?_⟩) ?_
                              rotate_left
                              · intro w; go_simp <;> with_reducible rfl
                              simp only [Act.put, List.setIfInBounds_toArray, List.set_cons_zero, List.set_cons_succ]
                              refine wpAny_ready (rs := [5, 8]) (by kernel_rfl) (by simp) ?_
                              refine AllReady.cons rfl (fun K hK => ?_) ?_
                              · go_simp
                                first | refine hK _ _ ?_ | refine ⟨trivial, hK _ _ ?_⟩ | refine ⟨fun _ _ => trivial, hK _ _ ?_⟩
                                clear hK K
                                refine wpAny_ready (rs := [6, 8]) (by kernel_rfl) (by simp) ?_
                                refine AllReady.cons rfl (fun K hK => ?_) ?_
                                · go_simp
                                  refine (cT.out _).mono ?_
                                  rintro e w5 ⟨rfl, b5⟩
                                  have p5 := (b5.cell (p := ⟨P, 1, none⟩) (by show P < wc.heap.size; omega)).trans (show wc.drew.cell? ⟨P, 1, none⟩ = _ from pc)
                                  have t5 := (b5.cell (p := ⟨nb, no + k, none⟩) (by show nb < wc.heap.size; omega)).trans (show wc.drew.cell? ⟨nb, no + k, none⟩ = _ from tc)
                                  have r5 := (Kept.of_below b5 0).owns ((Kept.drew 0 wc).owns rc)
                                  have B5 := (Below_dr Bc).trans (b5.mono (by show B ≤ wc.heap.size; omega))
                                  have z5 := b5.size
                                  first | refine hK _ _ ?_ | refine ⟨trivial, hK _ _ ?_⟩ | refine ⟨fun _ _ => trivial, hK _ _ ?_⟩
                                  clear hK K
                                  refine wpAny_ready (rs := [8]) (by kernel_rfl) (by simp) ?_
                                  refine AllReady.cons rfl (fun K hK => ?_) AllReady.nil
                                  go_simp
                                  first | refine hK _ _ ?_ | refine ⟨trivial, hK _ _ ?_⟩ | refine ⟨fun _ _ => trivial, hK _ _ ?_⟩
                                  clear hK K
                                  refine wpAny_take (i := 10) (oi := ⟨some 88, _, _, _, _, _⟩) (v := ?_) rfl (by kernel_rfl) (by kernel_rfl) (by kernel_rfl) (fun _ _ _ h => h) (Or.inl ⟨by rfl, ?_⟩) ?_
                                  rotate_left
                                  · intro w; go_simp <;> with_reducible rfl
                                  simp only [Act.put, List.setIfInBounds_toArray, List.set_cons_zero, List.set_cons_succ]
                                  refine wpAny_ready (rs := [11]) (by kernel_rfl) (by simp) ?_
                                  refine AllReady.cons rfl (fun K hK => ?_) AllReady.nil
                                  go_simp
                                  first | refine hK _ _ ?_ | refine ⟨trivial, hK _ _ ?_⟩ | refine ⟨fun _ _ => trivial, hK _ _ ?_⟩
                                  clear hK K
                                  refine wpAny_take (i := 12) (oi := ⟨some 90, _, _, _, _, _⟩) (v := ?_) rfl (by kernel_rfl) (by kernel_rfl) (by kernel_rfl) (fun _ _ _ h => h) (Or.inl ⟨by rfl, ?_⟩) ?_
                                  rotate_left
                                  · intro w; go_simp <;> with_reducible rfl
                                  simp only [Act.put, List.setIfInBounds_toArray, List.set_cons_zero, List.set_cons_succ]
                                  refine wpAny_ready (rs := [13]) (by kernel_rfl) (by simp) ?_
                                  refine AllReady.cons rfl (fun K hK => ?_) AllReady.nil
                                  go_simp
                                  first | refine hK _ _ ?_ | refine ⟨trivial, hK _ _ ?_⟩ | refine ⟨fun _ _ => trivial, hK _ _ ?_⟩
                                  clear hK K
                                  refine wpAny_ready (rs := [14]) (by kernel_rfl) (by simp) ?_
                                  refine BigFrame.allReady_want rfl (by rfl) (fun K hK => ?_) AllReady.nil
                                  refine wp_append_own _ _ _ 28 rfl B 45 i0 (.agg #[.int .i64 0, .int .i64 0, .int .i64 0, .int .i64 0, .int .i64 0, .string ⟨#[]⟩]) 6 56 Tryd.underlying28 hi0 hz0 hz1 hz2 rfl (by decide) _ _ _ rfl (r5.alloc (.cells #[.int .i64 1, .int .i64 n, .int .i64 0, .int .i64 0, .int .i64 0, .string T] 45)) ⟨_, 0, none⟩ 1 1 [.int .i64 1, .int .i64 n, .int .i64 0, .int .i64 0, .int .i64 0, .string T] rfl rfl (cells_new _ _ _) (by simp [Value.oneCell']) (by unfold maxLen; omega) (by omega) (by have : wc.heap.size ≤ w5.heap.size := z5; simp; omega) (fun v8 w8 own8 grow8 _ => hK _ _ ?_)
                                  clear hK K
                                  refine wpAny_ready (rs := [15]) (by kernel_rfl) (by simp) ?_
                                  refine AllReady.cons rfl (fun K hK => ?_) AllReady.nil
                                  go_simp
                                  first | refine hK _ _ ?_ | refine ⟨trivial, hK _ _ ?_⟩ | refine ⟨fun _ _ => trivial, hK _ _ ?_⟩
                                  clear hK K
                                  refine wpAny_done (by kernel_rfl) ?_ _
                                  go_wp2_with (fail)
                                  go_meet
                                  refine ⟨_, rfl, ?_, (B5.alloc (by have : wc.heap.size ≤ w5.heap.size := z5; omega) _).grown grow8 (by have : wc.heap.size ≤ w5.heap.size := z5; simp; omega) (fun j e => own_base rc e)⟩
                                  rw [List.length_append, List.flatMap_append]
                                  simpa [encIt, boxI] using own8
                                refine AllReady.cons rfl (fun K hK => ?_) AllReady.nil
                                go_simp
                                first | refine hK _ _ ?_ | refine ⟨trivial, hK _ _ ?_⟩ | refine ⟨fun _ _ => trivial, hK _ _ ?_⟩
                                clear hK K
                                refine wpAny_take (i := 10) (oi := ⟨some 88, _, _, _, _, _⟩) (v := ?_) rfl (by kernel_rfl) (by kernel_rfl) (by kernel_rfl) (fun _ _ _ h => h) (Or.inl ⟨by rfl, ?_⟩) ?_
                                rotate_left
                                · intro w; go_simp <;> with_reducible rfl
                                simp only [Act.put, List.setIfInBounds_toArray, List.set_cons_zero, List.set_cons_succ]
                                refine wpAny_ready (rs := [6, 11]) (by kernel_rfl) (by simp) ?_
                                refine AllReady.cons rfl (fun K hK => ?_) ?_
                                · go_simp
                                  refine (cT.out _).mono ?_
                                  rintro e w5 ⟨rfl, b5⟩
                                  have p5 := (b5.cell (p := ⟨P, 1, none⟩) (by show P < wc.heap.size; omega)).trans (show wc.drew.cell? ⟨P, 1, none⟩ = _ from pc)
                                  have t5 := (b5.cell (p := ⟨nb, no + k, none⟩) (by show nb < wc.heap.size; omega)).trans (show wc.drew.cell? ⟨nb, no + k, none⟩ = _ from tc)
                                  have r5 := (Kept.of_below b5 0).owns ((Kept.drew 0 wc).owns rc)
                                  have B5 := (Below_dr Bc).trans (b5.mono (by show B ≤ wc.heap.size; omega))
                                  have z5 := b5.size
                                  first | refine hK _ _ ?_ | refine ⟨trivial, hK _ _ ?_⟩ | refine ⟨fun _ _ => trivial, hK _ _ ?_⟩
                                  clear hK K
                                  refine wpAny_ready (rs := [11]) (by kernel_rfl) (by simp) ?_
                                  refine AllReady.cons rfl (fun K hK => ?_) AllReady.nil
                                  go_simp
                                  first | refine hK _ _ ?_ | refine ⟨trivial, hK _ _ ?_⟩ | refine ⟨fun _ _ => trivial, hK _ _ ?_⟩
                                  clear hK K
                                  refine wpAny_take (i := 12) (oi := ⟨some 90, _, _, _, _, _⟩) (v := ?_) rfl (by kernel_rfl) (by kernel_rfl) (by kernel_rfl) (fun _ _ _ h => h) (Or.inl ⟨by rfl, ?_⟩) ?_
                                  rotate_left
                                  · intro w; go_simp <;> with_reducible rfl
                                  simp only [Act.put, List.setIfInBounds_toArray, List.set_cons_zero, List.set_cons_succ]
                                  refine wpAny_ready (rs := [13]) (by kernel_rfl) (by simp) ?_
                                  refine AllReady.cons rfl (fun K hK => ?_) AllReady.nil
                                  go_simp
                                  first | refine hK _ _ ?_ | refine ⟨trivial, hK _ _ ?_⟩ | refine ⟨fun _ _ => trivial, hK _ _ ?_⟩
                                  clear hK K
                                  refine wpAny_ready (rs := [14]) (by kernel_rfl) (by simp) ?_
                                  refine BigFrame.allReady_want rfl (by rfl) (fun K hK => ?_) AllReady.nil
                                  refine wp_append_own _ _ _ 28 rfl B 45 i0 (.agg #[.int .i64 0, .int .i64 0, .int .i64 0, .int .i64 0, .int .i64 0, .string ⟨#[]⟩]) 6 56 Tryd.underlying28 hi0 hz0 hz1 hz2 rfl (by decide) _ _ _ rfl (r5.alloc (.cells #[.int .i64 1, .int .i64 n, .int .i64 0, .int .i64 0, .int .i64 0, .string T] 45)) ⟨_, 0, none⟩ 1 1 [.int .i64 1, .int .i64 n, .int .i64 0, .int .i64 0, .int .i64 0, .string T] rfl rfl (cells_new _ _ _) (by simp [Value.oneCell']) (by unfold maxLen; omega) (by omega) (by have : wc.heap.size ≤ w5.heap.size := z5; simp; omega) (fun v8 w8 own8 grow8 _ => hK _ _ ?_)
                                  clear hK K
                                  refine wpAny_ready (rs := [15]) (by kernel_rfl) (by simp) ?_
                                  refine AllReady.cons rfl (fun K hK => ?_) AllReady.nil
                                  go_simp
                                  first | refine hK _ _ ?_ | refine ⟨trivial, hK _ _ ?_⟩ | refine ⟨fun _ _ => trivial, hK _ _ ?_⟩
                                  clear hK K
                                  refine wpAny_done (by kernel_rfl) ?_ _
                                  go_wp2_with (fail)
                                  go_meet
                                  refine ⟨_, rfl, ?_, (B5.alloc (by have : wc.heap.size ≤ w5.heap.size := z5; omega) _).grown grow8 (by have : wc.heap.size ≤ w5.heap.size := z5; simp; omega) (fun j e => own_base rc e)⟩
                                  rw [List.length_append, List.flatMap_append]
                                  simpa [encIt, boxI] using own8
                                refine AllReady.cons rfl (fun K hK => ?_) AllReady.nil
                                go_simp
                                first | refine hK _ _ ?_ | refine ⟨trivial, hK _ _ ?_⟩ | refine ⟨fun _ _ => trivial, hK _ _ ?_⟩
                                clear hK K
                                refine wpAny_ready (rs := [6]) (by kernel_rfl) (by simp) ?_
                                refine AllReady.cons rfl (fun K hK => ?_) AllReady.nil
                                go_simp
                                refine (cT.out _).mono ?_
                                rintro e w5 ⟨rfl, b5⟩
                                have p5 := (b5.cell (p := ⟨P, 1, none⟩) (by show P < wc.heap.size; omega)).trans (show wc.drew.cell? ⟨P, 1, none⟩ = _ from pc)
                                have t5 := (b5.cell (p := ⟨nb, no + k, none⟩) (by show nb < wc.heap.size; omega)).trans (show wc.drew.cell? ⟨nb, no + k, none⟩ = _ from tc)
                                have r5 := (Kept.of_below b5 0).owns ((Kept.drew 0 wc).owns rc)
                                have B5 := (Below_dr Bc).trans (b5.mono (by show B ≤ wc.heap.size; omega))
                                have z5 := b5.size
                                first | refine hK _ _ ?_ | refine ⟨trivial, hK _ _ ?_⟩ | refine ⟨fun _ _ => trivial, hK _ _ ?_⟩
                                clear hK K
                                refine wpAny_take (i := 12) (oi := ⟨some 90, _, _, _, _, _⟩) (v := ?_) rfl (by kernel_rfl) (by kernel_rfl) (by kernel_rfl) (fun _ _ _ h => h) (Or.inl ⟨by rfl, ?_⟩) ?_
                                rotate_left
                                · intro w; go_simp <;> with_reducible rfl
                                simp only [Act.put, List.setIfInBounds_toArray, List.set_cons_zero, List.set_cons_succ]
                                refine wpAny_ready (rs := [13]) (by kernel_rfl) (by simp) ?_
                                refine AllReady.cons rfl (fun K hK => ?_) AllReady.nil
                                go_simp
                                first | refine hK _ _ ?_ | refine ⟨trivial, hK _ _ ?_⟩ | refine ⟨fun _ _ => trivial, hK _ _ ?_⟩
                                clear hK K
                                refine wpAny_ready (rs := [14]) (by kernel_rfl) (by simp) ?_
                                refine BigFrame.allReady_want rfl (by rfl) (fun K hK => ?_) AllReady.nil
                                refine wp_append_own _ _ _ 28 rfl B 45 i0 (.agg #[.int .i64 0, .int .i64 0, .int .i64 0, .int .i64 0, .int .i64 0, .string ⟨#[]⟩]) 6 56 Tryd.underlying28 hi0 hz0 hz1 hz2 rfl (by decide) _ _ _ rfl (r5.alloc (.cells #[.int .i64 1, .int .i64 n, .int .i64 0, .int .i64 0, .int .i64 0, .string T] 45)) ⟨_, 0, none⟩ 1 1 [.int .i64 1, .int .i64 n, .int .i64 0, .int .i64 0, .int .i64 0, .string T] rfl rfl (cells_new _ _ _) (by simp [Value.oneCell']) (by unfold maxLen; omega) (by omega) (by have : wc.heap.size ≤ w5.heap.size := z5; simp; omega) (fun v8 w8 own8 grow8 _ => hK _ _ ?_)
                                clear hK K
                                refine wpAny_ready (rs := [15]) (by kernel_rfl) (by simp) ?_
                                refine AllReady.cons rfl (fun K hK => ?_) AllReady.nil
                                go_simp
                                first | refine hK _ _ ?_ | refine ⟨trivial, hK _ _ ?_⟩ | refine ⟨fun _ _ => trivial, hK _ _ ?_⟩
                                clear hK K
                                refine wpAny_done (by kernel_rfl) ?_ _
                                go_wp2_with (fail)
                                go_meet
                                refine ⟨_, rfl, ?_, (B5.alloc (by have : wc.heap.size ≤ w5.heap.size := z5; omega) _).grown grow8 (by have : wc.heap.size ≤ w5.heap.size := z5; simp; omega) (fun j e => own_base rc e)⟩
                                rw [List.length_append, List.flatMap_append]
                                simpa [encIt, boxI] using own8
                              refine AllReady.cons rfl (fun K hK => ?_) AllReady.nil
                              go_simp
                              first | refine hK _ _ ?_ | refine ⟨trivial, hK _ _ ?_⟩ | refine ⟨fun _ _ => trivial, hK _ _ ?_⟩
                              clear hK K
                              refine wpAny_take (i := 10) (oi := ⟨some 88, _, _, _, _, _⟩) (v := ?_) rfl (by kernel_rfl) (by kernel_rfl) (by kernel_rfl) (fun _ _ _ h => h) (Or.inl ⟨by rfl, ?_⟩) ?_
                              rotate_left
                              · intro w; go_simp <;> with_reducible rfl
                              simp only [Act.put, List.setIfInBounds_toArray, List.set_cons_zero, List.set_cons_succ]
                              refine wpAny_ready (rs := [5, 11]) (by kernel_rfl) (by simp) ?_
                              refine AllReady.cons rfl (fun K hK => ?_) ?_
                              · go_simp
                                first | refine hK _ _ ?_ | refine ⟨trivial, hK _ _ ?_⟩ | refine ⟨fun _ _ => trivial, hK _ _ ?_⟩
                                clear hK K
                                refine wpAny_ready (rs := [6, 11]) (by kernel_rfl) (by simp) ?_
                                refine AllReady.cons rfl (fun K hK => ?_) ?_
                                · go_simp
                                  refine (cT.out _).mono ?_
                                  rintro e w5 ⟨rfl, b5⟩
                                  have p5 := (b5.cell (p := ⟨P, 1, none⟩) (by show P < wc.heap.size; omega)).trans (show wc.drew.cell? ⟨P, 1, none⟩ = _ from pc)
                                  have t5 := (b5.cell (p := ⟨nb, no + k, none⟩) (by show nb < wc.heap.size; omega)).trans (show wc.drew.cell? ⟨nb, no + k, none⟩ = _ from tc)
                                  have r5 := (Kept.of_below b5 0).owns ((Kept.drew 0 wc).owns rc)
                                  have B5 := (Below_dr Bc).trans (b5.mono (by show B ≤ wc.heap.size; omega))
                                  have z5 := b5.size
                                  first | refine hK _ _ ?_ | refine ⟨trivial, hK _ _ ?_⟩ | refine ⟨fun _ _ => trivial, hK _ _ ?_⟩
                                  clear hK K
                                  refine wpAny_ready (rs := [11]) (by kernel_rfl) (by simp) ?_
                                  refine AllReady.cons rfl (fun K hK => ?_) AllReady.nil
                                  go_simp
                                  first | refine hK _ _ ?_ | refine ⟨trivial, hK _ _ ?_⟩ | refine ⟨fun _ _ => trivial, hK _ _ ?_⟩
                                  clear hK K
                                  refine wpAny_take (i := 12) (oi := ⟨some 90, _, _, _, _, _⟩) (v := ?_) rfl (by kernel_rfl) (by kernel_rfl) (by kernel_rfl) (fun _ _ _ h => h) (Or.inl ⟨by rfl, ?_⟩) ?_
                                  rotate_left
                                  · intro w; go_simp <;> with_reducible rfl
                                  simp only [Act.put, List.setIfInBounds_toArray, List.set_cons_zero, List.set_cons_succ]
                                  refine wpAny_ready (rs := [13]) (by kernel_rfl) (by simp) ?_
                                  refine AllReady.cons rfl (fun K hK => ?_) AllReady.nil
                                  go_simp
                                  first | refine hK _ _ ?_ | refine ⟨trivial, hK _ _ ?_⟩ | refine ⟨fun _ _ => trivial, hK _ _ ?_⟩
                                  clear hK K
                                  refine wpAny_ready (rs := [14]) (by kernel_rfl) (by simp) ?_
                                  refine BigFrame.allReady_want rfl (by rfl) (fun K hK => ?_) AllReady.nil
                                  refine wp_append_own _ _ _ 28 rfl B 45 i0 (.agg #[.int .i64 0, .int .i64 0, .int .i64 0, .int .i64 0, .int .i64 0, .string ⟨#[]⟩]) 6 56 Tryd.underlying28 hi0 hz0 hz1 hz2 rfl (by decide) _ _ _ rfl (r5.alloc (.cells #[.int .i64 1, .int .i64 n, .int .i64 0, .int .i64 0, .int .i64 0, .string T] 45)) ⟨_, 0, none⟩ 1 1 [.int .i64 1, .int .i64 n, .int .i64 0, .int .i64 0, .int .i64 0, .string T] rfl rfl (cells_new _ _ _) (by simp [Value.oneCell']) (by unfold maxLen; omega) (by omega) (by have : wc.heap.size ≤ w5.heap.size := z5; simp; omega) (fun v8 w8 own8 grow8 _ => hK _ _ ?_)
                                  clear hK K
                                  refine wpAny_ready (rs := [15]) (by kernel_rfl) (by simp) ?_
                                  refine AllReady.cons rfl (fun K hK => ?_) AllReady.nil
                                  go_simp
                                  first | refine hK _ _ ?_ | refine ⟨trivial, hK _ _ ?_⟩ | refine ⟨fun _ _ => trivial, hK _ _ ?_⟩
                                  clear hK K
                                  refine wpAny_done (by kernel_rfl) ?_ _
                                  go_wp2_with (fail)
                                  go_meet
                                  refine ⟨_, rfl, ?_, (B5.alloc (by have : wc.heap.size ≤ w5.heap.size := z5; omega) _).grown grow8 (by have : wc.heap.size ≤ w5.heap.size := z5; simp; omega) (fun j e => own_base rc e)⟩
                                  rw [List.length_append, List.flatMap_append]
                                  simpa [encIt, boxI] using own8
                                refine AllReady.cons rfl (fun K hK => ?_) AllReady.nil
                                go_simp
                                first | refine hK _ _ ?_ | refine ⟨trivial, hK _ _ ?_⟩ | refine ⟨fun _ _ => trivial, hK _ _ ?_⟩
                                clear hK K
                                refine wpAny_ready (rs := [6]) (by kernel_rfl) (by simp) ?_
                                refine AllReady.cons rfl (fun K hK => ?_) AllReady.nil
                                go_simp
                                refine (cT.out _).mono ?_
                                rintro e w5 ⟨rfl, b5⟩
                                have p5 := (b5.cell (p := ⟨P, 1, none⟩) (by show P < wc.heap.size; omega)).trans (show wc.drew.cell? ⟨P, 1, none⟩ = _ from pc)
                                have t5 := (b5.cell (p := ⟨nb, no + k, none⟩) (by show nb < wc.heap.size; omega)).trans (show wc.drew.cell? ⟨nb, no + k, none⟩ = _ from tc)
                                have r5 := (Kept.of_below b5 0).owns ((Kept.drew 0 wc).owns rc)
                                have B5 := (Below_dr Bc).trans (b5.mono (by show B ≤ wc.heap.size; omega))
                                have z5 := b5.size
                                first | refine hK _ _ ?_ | refine ⟨trivial, hK _ _ ?_⟩ | refine ⟨fun _ _ => trivial, hK _ _ ?_⟩
                                clear hK K
                                refine wpAny_take (i := 12) (oi := ⟨some 90, _, _, _, _, _⟩) (v := ?_) rfl (by kernel_rfl) (by kernel_rfl) (by kernel_rfl) (fun _ _ _ h => h) (Or.inl ⟨by rfl, ?_⟩) ?_
                                rotate_left
                                · intro w; go_simp <;> with_reducible rfl
                                simp only [Act.put, List.setIfInBounds_toArray, List.set_cons_zero, List.set_cons_succ]
                                refine wpAny_ready (rs := [13]) (by kernel_rfl) (by simp) ?_
                                refine AllReady.cons rfl (fun K hK => ?_) AllReady.nil
                                go_simp
                                first | refine hK _ _ ?_ | refine ⟨trivial, hK _ _ ?_⟩ | refine ⟨fun _ _ => trivial, hK _ _ ?_⟩
                                clear hK K
                                refine wpAny_ready (rs := [14]) (by kernel_rfl) (by simp) ?_
                                refine BigFrame.allReady_want rfl (by rfl) (fun K hK => ?_) AllReady.nil
                                refine wp_append_own _ _ _ 28 rfl B 45 i0 (.agg #[.int .i64 0, .int .i64 0, .int .i64 0, .int .i64 0, .int .i64 0, .string ⟨#[]⟩]) 6 56 Tryd.underlying28 hi0 hz0 hz1 hz2 rfl (by decide) _ _ _ rfl (r5.alloc (.cells #[.int .i64 1, .int .i64 n, .int .i64 0, .int .i64 0, .int .i64 0, .string T] 45)) ⟨_, 0, none⟩ 1 1 [.int .i64 1, .int .i64 n, .int .i64 0, .int .i64 0, .int .i64 0, .string T] rfl rfl (cells_new _ _ _) (by simp [Value.oneCell']) (by unfold maxLen; omega) (by omega) (by have : wc.heap.size ≤ w5.heap.size := z5; simp; omega) (fun v8 w8 own8 grow8 _ => hK _ _ ?_)
                                clear hK K
                                refine wpAny_ready (rs := [15]) (by kernel_rfl) (by simp) ?_
                                refine AllReady.cons rfl (fun K hK => ?_) AllReady.nil
                                go_simp
                                first | refine hK _ _ ?_ | refine ⟨trivial, hK _ _ ?_⟩ | refine ⟨fun _ _ => trivial, hK _ _ ?_⟩
                                clear hK K
                                refine wpAny_done (by kernel_rfl) ?_ _
                                go_wp2_with (fail)
                                go_meet
                                refine ⟨_, rfl, ?_, (B5.alloc (by have : wc.heap.size ≤ w5.heap.size := z5; omega) _).grown grow8 (by have : wc.heap.size ≤ w5.heap.size := z5; simp; omega) (fun j e => own_base rc e)⟩
                                rw [List.length_append, List.flatMap_append]
                                simpa [encIt, boxI] using own8
                              refine AllReady.cons rfl (fun K hK => ?_) AllReady.nil
                              go_simp
                              first | refine hK _ _ ?_ | refine ⟨trivial, hK _ _ ?_⟩ | refine ⟨fun _ _ => trivial, hK _ _ ?_⟩
                              clear hK K
                              refine wpAny_ready (rs := [5]) (by kernel_rfl) (by simp) ?_
                              refine AllReady.cons rfl (fun K hK => ?_) AllReady.nil
                              go_simp
                              first | refine hK _ _ ?_ | refine ⟨trivial, hK _ _ ?_⟩ | refine ⟨fun _ _ => trivial, hK _ _ ?_⟩
                              clear hK K
                              refine wpAny_ready (rs := [6]) (by kernel_rfl) (by simp) ?_
                              refine AllReady.cons rfl (fun K hK => ?_) AllReady.nil
                              go_simp
                              refine (cT.out _).mono ?_
                              rintro e w5 ⟨rfl, b5⟩
                              have p5 := (b5.cell (p := ⟨P, 1, none⟩) (by show P < wc.heap.size; omega)).trans (show wc.drew.cell? ⟨P, 1, none⟩ = _ from pc)
                              have t5 := (b5.cell (p := ⟨nb, no + k, none⟩) (by show nb < wc.heap.size; omega)).trans (show wc.drew.cell? ⟨nb, no + k, none⟩ = _ from tc)
                              have r5 := (Kept.of_below b5 0).owns ((Kept.drew 0 wc).owns rc)
                              have B5 := (Below_dr Bc).trans (b5.mono (by show B ≤ wc.heap.size; omega))
                              have z5 := b5.size
                              first | refine hK _ _ ?_ | refine ⟨trivial, hK _ _ ?_⟩ | refine ⟨fun _ _ => trivial, hK _ _ ?_⟩
                              clear hK K
                              refine wpAny_take (i := 12) (oi := ⟨some 90, _, _, _, _, _⟩) (v := ?_) rfl (by kernel_rfl) (by kernel_rfl) (by kernel_rfl) (fun _ _ _ h => h) (Or.inl ⟨by rfl, ?_⟩) ?_
                              rotate_left
                              · intro w; go_simp <;> with_reducible rfl
                              simp only [Act.put, List.setIfInBounds_toArray, List.set_cons_zero, List.set_cons_succ]
                              refine wpAny_ready (rs := [13]) (by kernel_rfl) (by simp) ?_
                              refine AllReady.cons rfl (fun K hK => ?_) AllReady.nil
                              go_simp
                              first | refine hK _ _ ?_ | refine ⟨trivial, hK _ _ ?_⟩ | refine ⟨fun _ _ => trivial, hK _ _ ?_⟩
                              clear hK K
                              refine wpAny_ready (rs := [14]) (by kernel_rfl) (by simp) ?_
                              refine BigFrame.allReady_want rfl (by rfl) (fun K hK => ?_) AllReady.nil
                              refine wp_append_own _ _ _ 28 rfl B 45 i0 (.agg #[.int .i64 0, .int .i64 0, .int .i64 0, .int .i64 0, .int .i64 0, .string ⟨#[]⟩]) 6 56 Tryd.underlying28 hi0 hz0 hz1 hz2 rfl (by decide) _ _ _ rfl (r5.alloc (.cells #[.int .i64 1, .int .i64 n, .int .i64 0, .int .i64 0, .int .i64 0, .string T] 45)) ⟨_, 0, none⟩ 1 1 [.int .i64 1, .int .i64 n, .int .i64 0, .int .i64 0, .int .i64 0, .string T] rfl rfl (cells_new _ _ _) (by simp [Value.oneCell']) (by unfold maxLen; omega) (by omega) (by have : wc.heap.size ≤ w5.heap.size := z5; simp; omega) (fun v8 w8 own8 grow8 _ => hK _ _ ?_)
                              clear hK K
                              refine wpAny_ready (rs := [15]) (by kernel_rfl) (by simp) ?_
                              refine AllReady.cons rfl (fun K hK => ?_) AllReady.nil
                              go_simp
                              first | refine hK _ _ ?_ | refine ⟨trivial, hK _ _ ?_⟩ | refine ⟨fun _ _ => trivial, hK _ _ ?_⟩
                              clear hK K
                              refine wpAny_done (by kernel_rfl) ?_ _
                              go_wp2_with (fail)
                              go_meet
                              refine ⟨_, rfl, ?_, (B5.alloc (by have : wc.heap.size ≤ w5.heap.size := z5; omega) _).grown grow8 (by have : wc.heap.size ≤ w5.heap.size := z5; simp; omega) (fun j e => own_base rc e)⟩
                              rw [List.length_append, List.flatMap_append]
                              simpa [encIt, boxI] using own8
                            refine AllReady.cons rfl (fun K hK => ?_) AllReady.nil
                            go_simp
                            first | refine hK _ _ ?_ | refine ⟨trivial, hK _ _ ?_⟩ | refine ⟨fun _ _ => trivial, hK _ _ ?_⟩
                            clear hK K
                            refine wpAny_take (i := 10) (oi := ⟨some 88, _, _, _, _, _⟩) (v := ?_) rfl (by kernel_rfl) (by kernel_rfl) (by kernel_rfl) (fun _ _ _ h => h) (Or.inl ⟨by rfl, ?_⟩) ?_
                            rotate_left
                            · intro w; go_simp <;> with_reducible rfl
                            simp only [Act.put, List.setIfInBounds_toArray, List.set_cons_zero, List.set_cons_succ]
                            refine wpAny_ready (rs := [2, 11]) (by kernel_rfl) (by simp) ?_
                            refine AllReady.cons rfl (fun K hK => ?_) ?_
                            · go_simp
                              first | refine hK _ _ ?_ | refine ⟨trivial, hK _ _ ?_⟩ | refine ⟨fun _ _ => trivial, hK _ _ ?_⟩
                              clear hK K
                              refine wpAny_take (i := 4) (oi := ⟨some 82, _, _, _, _, _⟩) (v := ?_) rfl (by kernel_rfl) (by kernel_rfl) (by kernel_rfl) (fun _ _ _ h => h) (Or.inl ⟨by rfl, ?_⟩) ?_
                              rotate_left
                              · intro w; go_simp <;> with_reducible rfl
                              simp only [Act.put, List.setIfInBounds_toArray, List.set_cons_zero, List.set_cons_succ]
                              refine wpAny_ready (rs := [5, 11]) (by kernel_rfl) (by simp) ?_
                              refine AllReady.cons rfl (fun K hK => ?_) ?_
                              · go_simp
                                first | refine hK _ _ ?_ | refine ⟨trivial, hK _ _ ?_⟩ | refine ⟨fun _ _ => trivial, hK _ _ ?_⟩
                                clear hK K
                                refine wpAny_ready (rs := [6, 11]) (by kernel_rfl) (by simp) ?_
                                refine AllReady.cons rfl (fun K hK => ?_) ?_
                                · go_simp
                                  refine (cT.out _).mono ?_
                                  rintro e w5 ⟨rfl, b5⟩
                                  have p5 := (b5.cell (p := ⟨P, 1, none⟩) (by show P < wc.heap.size; omega)).trans (show wc.drew.cell? ⟨P, 1, none⟩ = _ from pc)
                                  have t5 := (b5.cell (p := ⟨nb, no + k, none⟩) (by show nb < wc.heap.size; omega)).trans (show wc.drew.cell? ⟨nb, no + k, none⟩ = _ from tc)
                                  have r5 := (Kept.of_below b5 0).owns ((Kept.drew 0 wc).owns rc)
                                  have B5 := (Below_dr Bc).trans (b5.mono (by show B ≤ wc.heap.size; omega))
                                  have z5 := b5.size
                                  first | refine hK _ _ ?_ | refine ⟨trivial, hK _ _ ?_⟩ | refine ⟨fun _ _ => trivial, hK _ _ ?_⟩
                                  clear hK K
                                  refine wpAny_ready (rs := [11]) (by kernel_rfl) (by simp) ?_
                                  refine AllReady.cons rfl (fun K hK => ?_) AllReady.nil
                                  go_simp
                                  first | refine hK _ _ ?_ | refine ⟨trivial, hK _ _ ?_⟩ | refine ⟨fun _ _ => trivial, hK _ _ ?_⟩
                                  clear hK K
                                  refine wpAny_take (i := 12) (oi := ⟨some 90, _, _, _, _, _⟩) (v := ?_) rfl (by kernel_rfl) (by kernel_rfl) (by kernel_rfl) (fun _ _ _ h => h) (Or.inl ⟨by rfl, ?_⟩) ?_
                                  rotate_left
                                  · intro w; go_simp <;> with_reducible rfl
                                  simp only [Act.put, List.setIfInBounds_toArray, List.set_cons_zero, List.set_cons_succ]
                                  refine wpAny_ready (rs := [13]) (by kernel_rfl) (by simp) ?_
                                  refine AllReady.cons rfl (fun K hK => ?_) AllReady.nil
                                  go_simp
                                  first | refine hK _ _ ?_ | refine ⟨trivial, hK _ _ ?_⟩ | refine ⟨fun _ _ => trivial, hK _ _ ?_⟩
                                  clear hK K
                                  refine wpAny_ready (rs := [14]) (by kernel_rfl) (by simp) ?_
                                  refine BigFrame.allReady_want rfl (by rfl) (fun K hK => ?_) AllReady.nil
                                  refine wp_append_own _ _ _ 28 rfl B 45 i0 (.agg #[.int .i64 0, .int .i64 0, .int .i64 0, .int .i64 0, .int .i64 0, .string ⟨#[]⟩]) 6 56 Tryd.underlying28 hi0 hz0 hz1 hz2 rfl (by decide) _ _ _ rfl (r5.alloc (.cells #[.int .i64 1, .int .i64 n, .int .i64 0, .int .i64 0, .int .i64 0, .string T] 45)) ⟨_, 0, none⟩ 1 1 [.int .i64 1, .int .i64 n, .int .i64 0, .int .i64 0, .int .i64 0, .string T] rfl rfl (cells_new _ _ _) (by simp [Value.oneCell']) (by unfold maxLen; omega) (by omega) (by have : wc.heap.size ≤ w5.heap.size := z5; simp; omega) (fun v8 w8 own8 grow8 _ => hK _ _ ?_)
                                  clear hK K
                                  refine wpAny_ready (rs := [15]) (by kernel_rfl) (by simp) ?_
                                  refine AllReady.cons rfl (fun K hK => ?_) AllReady.nil
                                  go_simp
                                  first | refine hK _ _ ?_ | refine ⟨trivial, hK _ _ ?_⟩ | refine ⟨fun _ _ => trivial, hK _ _ ?_⟩
                                  clear hK K
                                  refine wpAny_done (by kernel_rfl) ?_ _
                                  go_wp2_with (fail)
                                  go_meet
                                  refine ⟨_, rfl, ?_, (B5.alloc (by have : wc.heap.size ≤ w5.heap.size := z5; omega) _).grown grow8 (by have : wc.heap.size ≤ w5.heap.size := z5; simp; omega) (fun j e => own_base rc e)⟩
                                  rw [List.length_append, List.flatMap_append]
                                  simpa [encIt, boxI] using own8
                                refine AllReady.cons rfl (fun K hK => ?_) AllReady.nil
                                go_simp
                                first | refine hK _ _ ?_ | refine ⟨trivial, hK _ _ ?_⟩ | refine ⟨fun _ _ => trivial, hK _ _ ?_⟩
                                clear hK K
                                refine wpAny_ready (rs := [6]) (by kernel_rfl) (by simp) ?_
                                refine AllReady.cons rfl (fun K hK => ?_) AllReady.nil
                                go_simp
                                refine (cT.out _).mono ?_
                                rintro e w5 ⟨rfl, b5⟩
                                have p5 := (b5.cell (p := ⟨P, 1, none⟩) (by show P < wc.heap.size; omega)).trans (show wc.drew.cell? ⟨P, 1, none⟩ = _ from pc)
                                have t5 := (b5.cell (p := ⟨nb, no + k, none⟩) (by show nb < wc.heap.size; omega)).trans (show wc.drew.cell? ⟨nb, no + k, none⟩ = _ from tc)
                                have r5 := (Kept.of_below b5 0).owns ((Kept.drew 0 wc).owns rc)
                                have B5 := (Below_dr Bc).trans (b5.mono (by show B ≤ wc.heap.size; omega))
                                have z5 := b5.size
                                first | refine hK _ _ ?_ | refine ⟨trivial, hK _ _ ?_⟩ | refine ⟨fun _ _ => trivial, hK _ _ ?_⟩
                                clear hK K
                                refine wpAny_take (i := 12) (oi := ⟨some 90, _, _, _, _, _⟩) (v := ?_) rfl (by kernel_rfl) (by kernel_rfl) (by kernel_rfl) (fun _ _ _ h => h) (Or.inl ⟨by rfl, ?_⟩) ?_
                                rotate_left
                                · intro w; go_simp <;> with_reducible rfl
                                simp only [Act.put, List.setIfInBounds_toArray, List.set_cons_zero, List.set_cons_succ]
                                refine wpAny_ready (rs := [13]) (by kernel_rfl) (by simp) ?_
                                refine AllReady.cons rfl (fun K hK => ?_) AllReady.nil
                                go_simp
                                first | refine hK _ _ ?_ | refine ⟨trivial, hK _ _ ?_⟩ | refine ⟨fun _ _ => trivial, hK _ _ ?_⟩
                                clear hK K
                                refine wpAny_ready (rs := [14]) (by kernel_rfl) (by simp) ?_
                                refine BigFrame.allReady_want rfl (by rfl) (fun K hK => ?_) AllReady.nil
                                refine wp_append_own _ _ _ 28 rfl B 45 i0 (.agg #[.int .i64 0, .int .i64 0, .int .i64 0, .int .i64 0, .int .i64 0, .string ⟨#[]⟩]) 6 56 Tryd.underlying28 hi0 hz0 hz1 hz2 rfl (by decide) _ _ _ rfl (r5.alloc (.cells #[.int .i64 1, .int .i64 n, .int .i64 0, .int .i64 0, .int .i64 0, .string T] 45)) ⟨_, 0, none⟩ 1 1 [.int .i64 1, .int .i64 n, .int .i64 0, .int .i64 0, .int .i64 0, .string T] rfl rfl (cells_new _ _ _) (by simp [Value.oneCell']) (by unfold maxLen; omega) (by omega) (by have : wc.heap.size ≤ w5.heap.size := z5; simp; omega) (fun v8 w8 own8 grow8 _ => hK _ _ ?_)
                                clear hK K
                                refine wpAny_ready (rs := [15]) (by kernel_rfl) (by simp) ?_
                                refine AllReady.cons rfl (fun K hK => ?_) AllReady.nil
                                go_simp
                                first | refine hK _ _ ?_ | refine ⟨trivial, hK _ _ ?_⟩ | refine ⟨fun _ _ => trivial, hK _ _ ?_⟩
                                clear hK K
                                refine wpAny_done (by kernel_rfl) ?_ _
                                go_wp2_with (fail)
                                go_meet
                                refine ⟨_, rfl, ?_, (B5.alloc (by have : wc.heap.size ≤ w5.heap.size := z5; omega) _).grown grow8 (by have : wc.heap.size ≤ w5.heap.size := z5; simp; omega) (fun j e => own_base rc e)⟩
                                rw [List.length_append, List.flatMap_append]
                                simpa [encIt, boxI] using own8
                              refine AllReady.cons rfl (fun K hK => ?_) AllReady.nil
                              go_simp
                              first | refine hK _ _ ?_ | refine ⟨trivial, hK _ _ ?_⟩ | refine ⟨fun _ _ => trivial, hK _ _ ?_⟩
                              clear hK K
                              refine wpAny_ready (rs := [5]) (by kernel_rfl) (by simp) ?_
                              refine AllReady.cons rfl (fun K hK => ?_) AllReady.nil
                              go_simp
                              first | refine hK _ _ ?_ | refine ⟨trivial, hK _ _ ?_⟩ | refine ⟨fun _ _ => trivial, hK _ _ ?_⟩
                              clear hK K
                              refine wpAny_ready (rs := [6]) (by kernel_rfl) (by simp) ?_
                              refine AllReady.cons rfl (fun K hK => ?_) AllReady.nil
                              go_simp
                              refine (cT.out _).mono ?_
                              rintro e w5 ⟨rfl, b5⟩
                              have p5 := (b5.cell (p := ⟨P, 1, none⟩) (by show P < wc.heap.size; omega)).trans (show wc.drew.cell? ⟨P, 1, none⟩ = _ from pc)
                              have t5 := (b5.cell (p := ⟨nb, no + k, none⟩) (by show nb < wc.heap.size; omega)).trans (show wc.drew.cell? ⟨nb, no + k, none⟩ = _ from tc)
                              have r5 := (Kept.of_below b5 0).owns ((Kept.drew 0 wc).owns rc)
                              have B5 := (Below_dr Bc).trans (b5.mono (by show B ≤ wc.heap.size; omega))
                              have z5 := b5.size
                              first | refine hK _ _ ?_ | refine ⟨trivial, hK _ _ ?_⟩ | refine ⟨fun _ _ => trivial, hK _ _ ?_⟩
                              clear hK K
                              refine wpAny_take (i := 12) (oi := ⟨some 90, _, _, _, _, _⟩) (v := ?_) rfl (by kernel_rfl) (by kernel_rfl) (by kernel_rfl) (fun _ _ _ h => h) (Or.inl ⟨by rfl, ?_⟩) ?_
                              rotate_left
                              · intro w; go_simp <;> with_reducible rfl
                              simp only [Act.put, List.setIfInBounds_toArray, List.set_cons_zero, List.set_cons_succ]
                              refine wpAny_ready (rs := [13]) (by kernel_rfl) (by simp) ?_
                              refine AllReady.cons rfl (fun K hK => ?_) AllReady.nil
                              go_simp
                              first | refine hK _ _ ?_ | refine ⟨trivial, hK _ _ ?_⟩ | refine ⟨fun _ _ => trivial, hK _ _ ?_⟩
                              clear hK K
                              refine wpAny_ready (rs := [14]) (by kernel_rfl) (by simp) ?_
                              refine BigFrame.allReady_want rfl (by rfl) (fun K hK => ?_) AllReady.nil
                              refine wp_append_own _ _ _ 28 rfl B 45 i0 (.agg #[.int .i64 0, .int .i64 0, .int .i64 0, .int .i64 0, .int .i64 0, .string ⟨#[]⟩]) 6 56 Tryd.underlying28 hi0 hz0 hz1 hz2 rfl (by decide) _ _ _ rfl (r5.alloc (.cells #[.int .i64 1, .int .i64 n, .int .i64 0, .int .i64 0, .int .i64 0, .string T] 45)) ⟨_, 0, none⟩ 1 1 [.int .i64 1, .int .i64 n, .int .i64 0, .int .i64 0, .int .i64 0, .string T] rfl rfl (cells_new _ _ _) (by simp [Value.oneCell']) (by unfold maxLen; omega) (by omega) (by have : wc.heap.size ≤ w5.heap.size := z5; simp; omega) (fun v8 w8 own8 grow8 _ => hK _ _ ?_)
                              clear hK K
                              refine wpAny_ready (rs := [15]) (by kernel_rfl) (by simp) ?_
                              refine AllReady.cons rfl (fun K hK => ?_) AllReady.nil
                              go_simp
                              first | refine hK _ _ ?_ | refine ⟨trivial, hK _ _ ?_⟩ | refine ⟨fun _ _ => trivial, hK _ _ ?_⟩
                              clear hK K
                              refine wpAny_done (by kernel_rfl) ?_ _
                              go_wp2_with (fail)
                              go_meet
                              refine ⟨_, rfl, ?_, (B5.alloc (by have : wc.heap.size ≤ w5.heap.size := z5; omega) _).grown grow8 (by have : wc.heap.size ≤ w5.heap.size := z5; simp; omega) (fun j e => own_base rc e)⟩
                              rw [List.length_append, List.flatMap_append]
                              simpa [encIt, boxI] using own8
                            refine AllReady.cons rfl (fun K hK => ?_) AllReady.nil
                            go_simp
                            first | refine hK _ _ ?_ | refine ⟨trivial, hK _ _ ?_⟩ | refine ⟨fun _ _ => trivial, hK _ _ ?_⟩
                            clear hK K
                            refine wpAny_ready (rs := [2]) (by kernel_rfl) (by simp) ?_
                            refine AllReady.cons rfl (fun K hK => ?_) AllReady.nil
                            go_simp
                            first | refine hK _ _ ?_ | refine ⟨trivial, hK _ _ ?_⟩ | refine ⟨fun _ _ => trivial, hK _ _ ?_⟩
                            clear hK K
                            refine wpAny_take (i := 4) (oi := ⟨some 82, _, _, _, _, _⟩) (v := ?_) rfl (by kernel_rfl) (by kernel_rfl) (by kernel_rfl) (fun _ _ _ h => h) (Or.inl ⟨by rfl, ?_⟩) ?_
                            rotate_left
                            · intro w; go_simp <;> with_reducible rfl
                            simp only [Act.put, List.setIfInBounds_toArray, List.set_cons_zero, List.set_cons_succ]
                            refine wpAny_ready (rs := [5]) (by kernel_rfl) (by simp) ?_
                            refine AllReady.cons rfl (fun K hK => ?_) AllReady.nil
                            go_simp
                            first | refine hK _ _ ?_ | refine ⟨trivial, hK _ _ ?_⟩ | refine ⟨fun _ _ => trivial, hK _ _ ?_⟩
                            clear hK K
                            refine wpAny_ready (rs := [6]) (by kernel_rfl) (by simp) ?_
                            refine AllReady.cons rfl (fun K hK => ?_) AllReady.nil
                            go_simp
                            refine (cT.out _).mono ?_
                            rintro e w5 ⟨rfl, b5⟩
                            have p5 := (b5.cell (p := ⟨P, 1, none⟩) (by show P < wc.heap.size; omega)).trans (show wc.drew.cell? ⟨P, 1, none⟩ = _ from pc)
                            have t5 := (b5.cell (p := ⟨nb, no + k, none⟩) (by show nb < wc.heap.size; omega)).trans (show wc.drew.cell? ⟨nb, no + k, none⟩ = _ from tc)
                            have r5 := (Kept.of_below b5 0).owns ((Kept.drew 0 wc).owns rc)
                            have B5 := (Below_dr Bc).trans (b5.mono (by show B ≤ wc.heap.size; omega))
                            have z5 := b5.size
                            first | refine hK _ _ ?_ | refine ⟨trivial, hK _ _ ?_⟩ | refine ⟨fun _ _ => trivial, hK _ _ ?_⟩
                            clear hK K
                            refine wpAny_take (i := 12) (oi := ⟨some 90, _, _, _, _, _⟩) (v := ?_) rfl (by kernel_rfl) (by kernel_rfl) (by kernel_rfl) (fun _ _ _ h => h) (Or.inl ⟨by rfl, ?_⟩) ?_
                            rotate_left
                            · intro w; go_simp <;> with_reducible rfl
                            simp only [Act.put, List.setIfInBounds_toArray, List.set_cons_zero, List.set_cons_succ]
                            refine wpAny_ready (rs := [13]) (by kernel_rfl) (by simp) ?_
                            refine AllReady.cons rfl (fun K hK => ?_) AllReady.nil
                            go_simp
                            first | refine hK _ _ ?_ | refine ⟨trivial, hK _ _ ?_⟩ | refine ⟨fun _ _ => trivial, hK _ _ ?_⟩
                            clear hK K
                            refine wpAny_ready (rs := [14]) (by kernel_rfl) (by simp) ?_
                            refine BigFrame.allReady_want rfl (by rfl) (fun K hK => ?_) AllReady.nil
                            refine wp_append_own _ _ _ 28 rfl B 45 i0 (.agg #[.int .i64 0, .int .i64 0, .int .i64 0, .int .i64 0, .int .i64 0, .string ⟨#[]⟩]) 6 56 Tryd.underlying28 hi0 hz0 hz1 hz2 rfl (by decide) _ _ _ rfl (r5.alloc (.cells #[.int .i64 1, .int .i64 n, .int .i64 0, .int .i64 0, .int .i64 0, .string T] 45)) ⟨_, 0, none⟩ 1 1 [.int .i64 1, .int .i64 n, .int .i64 0, .int .i64 0, .int .i64 0, .string T] rfl rfl (cells_new _ _ _) (by simp [Value.oneCell']) (by unfold maxLen; omega) (by omega) (by have : wc.heap.size ≤ w5.heap.size := z5; simp; omega) (fun v8 w8 own8 grow8 _ => hK _ _ ?_)
                            clear hK K
                            refine wpAny_ready (rs := [15]) (by kernel_rfl) (by simp) ?_
                            refine AllReady.cons rfl (fun K hK => ?_) AllReady.nil
                            go_simp
                            first | refine hK _ _ ?_ | refine ⟨trivial, hK _ _ ?_⟩ | refine ⟨fun _ _ => trivial, hK _ _ ?_⟩
                            clear hK K
                            refine wpAny_done (by kernel_rfl) ?_ _
                            go_wp2_with (fail)
                            go_meet
                            refine ⟨_, rfl, ?_, (B5.alloc (by have : wc.heap.size ≤ w5.heap.size := z5; omega) _).grown grow8 (by have : wc.heap.size ≤ w5.heap.size := z5; simp; omega) (fun j e => own_base rc e)⟩
                            rw [List.length_append, List.flatMap_append]
                            simpa [encIt, boxI] using own8
                          case rest =>
                            obtain ⟨u2, rfl, rd, Bd⟩ := hcut
                            have zd := Bd.size
                            obtain ⟨pq2, cq2, rfl, hq3, hq4⟩ := owns_shape rd
                            unfold maxLen at hq4
                            have pd := cell_blk ((Bd.block P (by omega)).trans hp) (i := 1) rfl
                            have hL2s : (L1 ++ [(⟨1, n, 0, 0, 0, T⟩ : It)]).length ≤ 163 := by rw [List.length_append]; simp; omega
                            clear rc Bc pc tc
                            generalize L1 ++ [(⟨1, n, 0, 0, 0, T⟩ : It)] = L2 at *
                            by_cases m3 : (k : Int) % 3 = 2
                            · by_cases m4 : (k : Int) + 1 < ws.length
                              · have hq := hid (show spell tq il ws (k + 1) = L2 ++ [penI, xI] by rw [hsp1.out, if_pos ⟨by omega, by omega⟩])
                                have cS := hid (fun W => RSign_any 45 W (by omega) (by omega))
                                rw [show width 45 = 4 by decide] at cS
                                go_wp2_with (fail)
                                refine (cS.out _).mono ?_
                                rintro e w' ⟨rfl, rfl⟩
                                go_wp2_with (at_builtin; go_must (refine wpList_append_own _ rfl _ _ 28 rfl B 45 i0 (.agg #[.int .i64 0, .int .i64 0, .int .i64 0, .int .i64 0, .int .i64 0, .string ⟨#[]⟩]) 6 56 Tryd.underlying28 hi0 hz0 hz1 hz2 rfl (by decide) _ _ _ rfl (rd.alloc _) ⟨_, 0, none⟩ 2 2 [.int .i64 3, .int .i64 4, .int .i64 0, .int .i64 0, .int .i64 0, .string ⟨#[]⟩, .int .i64 1, .int .i64 6, .int .i64 0, .int .i64 0, .int .i64 0, .string ⟨#[120]⟩] rfl rfl (cells_new _ _ _) (by simp [Value.oneCell']) (by unfold maxLen; omega) (by omega) (by simp; omega) ?_; intro v' w7 hown' hgrow _))
                                refine ⟨⟨k + 1, by omega, by go_num, ⟨_, rfl, ?_⟩, hgood2.out, (Bd.alloc (by omega) _).grown hgrow (by simp; omega) (fun j e => own_base rd e)⟩, by simp [RowKit.intOf]; omega⟩
                                rw [hq.out, List.length_append, List.flatMap_append]
                                simpa [encIt, penI, xI, emp] using hown'
                              · have hq := hid (show spell tq il ws (k + 1) = L2 by rw [hsp1.out, if_neg (by omega), List.append_nil])
                                go_wp2_with (fail)
                                exact ⟨⟨k + 1, by omega, by go_num, ⟨_, rfl, by rw [hq.out]; exact rd⟩, hgood2.out, Bd⟩, by simp [RowKit.intOf]; omega⟩
                            · have hq := hid (show spell tq il ws (k + 1) = L2 by rw [hsp1.out, if_neg (by omega), List.append_nil])
                              go_wp2_with (fail)
                              exact ⟨⟨k + 1, by omega, by go_num, ⟨_, rfl, by rw [hq.out]; exact rd⟩, hgood2.out, Bd⟩, by simp [RowKit.intOf]; omega⟩
                · obtain rfl : k = ws.length := by omega
                  rw [List.take_length] at hgood
                  have hslen := spell_len il ws hil1 ws.length
                  have hlp2 : Lp tq (spell tq il ws ws.length) := spell_lp hilp (fun s h => ⟨(hgood s h).1, by have := tq_bd s; omega, by have := tq_bd s; have := (hgood s h).2; omega⟩) tq_x _ hlp (Nat.le_refl _)
                  have hokx := spell_ok il ws hilo (fun s h => (hgood s h).2) ws.length (Nat.le_refl _)
                  have hsl := sl_of_owns (enc := encIt) (fun _ _ => rfl) hrow
                  go_wp2_with (fail)
                  go_ret
                  exact ⟨⟨_, _, rfl, hsl, by omega, hokx, fun _ => hlp2⟩, (by exact hB0.trans (hB.mono (by omega)))⟩
end Go.Proofs.YtgakaomcdpgnkaaDoor
