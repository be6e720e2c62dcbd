/- The walk of the law's Own (printed by gen_mku.py). -/
import Derived.Test.YtgbfekimflnaiaaDoorMkY
namespace Go.Proofs.YtgbfekimflnaiaaDoor
open Go.RowKit Go.Shelf Go.Lib

section
variable {P : Program}
theorem wp_append_sl {α : Type} {w : World} {o : Oper} {a : Act} {K : Act → World → Prop} {Q : Exit → Act → World → Prop}
    (s x : Operand) (t : TypeId) (hop : o.op = Op.call { callee := Callee.builtin Builtin.append, args := #[s, x], argTypes := #[t, t] })
    (base : Nat) (e : TypeId) (i : TypeInfo) (z : Value) (size bytes : Nat) (h1 : P.underlying t = some (.slice e)) (h2 : P.info? e = some i) (h3 : i.zero = some z) (h4 : i.size = size) (h5 : i.bytes = bytes) (h6 : z.cells.size = size) (h7 : 0 < size)
    (v : Value) (k : Nat) (xs : List Value) (hs : a.eval s = v) (hown : w.ownsRow base e size v k xs)
    (enc : α → List Value) (vx : Value) (l : List α) (hx : a.eval x = vx) (hsl : Sl w size enc vx l) (he : ∀ x ∈ l, (enc x).length = size ∧ ∀ u ∈ enc x, u.oneCell' = true)
    (b1 : k + l.length ≤ maxLen) (b2 : (k + l.length) * bytes ≤ 140737488355328) (b3 : base ≤ w.heap.size)
    (hK : ∀ v' w', w'.ownsRow base e size v' (k + l.length) (xs ++ l.flatMap enc) → w.grownBy w' v.ownBlock → (v' = .slice none 0 0 ↔ v = .slice none 0 0 ∧ l = []) → K (a.put o.dst v') w') :
    o.wp P a w K Q := by
  obtain ⟨v', w', hrun, r1, r2, r3⟩ := run_append_sl (P := P) w base t o.type e i z size bytes h1 h2 h3 h4 h5 h6 h7 v k xs hown enc vx l hsl he b1 b2 b3
  unfold Oper.wp
  simp [execOp, hop, resolve, invoke, builtin, hs, hx, hrun, Result.andThen]
  exact hK v' w' r1 r2 r3
end

set_option maxRecDepth 100000 in
set_option maxHeartbeats 8000000 in
theorem Own_any (v : Value) (L : List Pt) (w : World) (hsl : Sl w 2 encPt v L) (hws : ∀ x ∈ L, Sl w 1 encT x.2.1 x.2.2) (hL : L.length ≤ 1000000) (hwl : ∀ x ∈ L, x.2.2.length ≤ 1000000) :
    Calls Tryd.prog 12 #[v] w fun e w' => ∃ (v' : Value) (M : List Pt), e = .returned v' ∧ Sl w' 2 encPt v' M ∧ (∀ x ∈ M, Sl w' 1 encT x.2.1 x.2.2) ∧ (M.map fun (x : Pt) => (x.1, x.2.2)) = (L.map fun (x : Pt) => (x.1, x.2.2)) ∧ Below w.heap.size w w' := by
  obtain ⟨p, cap, rfl, hmx⟩ := hsl.shape
  obtain ⟨i0, hi, hz0, hz1, hz2⟩ := info_parts Tryd.infoS
  obtain ⟨j0, hj, hy0, hy1, hy2⟩ := info_parts Tryd.infoPt
  have n1e : ∀ l : List ByteArray, ∀ x ∈ l, (encT x).length = 1 ∧ ∀ u ∈ encT x, u.oneCell' = true := fun l x _ => ⟨rfl, fun u hu => by obtain rfl := List.mem_singleton.1 hu; rfl⟩
  go_enter Tryd.func12, Tryd.ntmps12
  go_wp2_with (fail)
  go_loopw [3, 4] (fun ov i wr => ∃ (k : Nat) (M : List Pt), k ≤ L.length ∧ i = .int .i64 k ∧ (M.map fun (x : Pt) => (x.1, x.2.2)) = ((L.take k).map fun (x : Pt) => (x.1, x.2.2)) ∧ (∃ x, ov = x ∧ wr.ownsRow w.heap.size 41 2 x M.length (M.flatMap encPt)) ∧ (∀ p ∈ M, SlS wr p.2.1 p.2.2) ∧ Below w.heap.size w wr) (fun _ i _ => L.length - (RowKit.intOf i).toNat)
  case atStart => exact ⟨0, [], Nat.zero_le _, rfl, rfl, ⟨_, rfl, World.ownsRow_nil _ _ _ _⟩, by simp, Below.refl _ _⟩
  case round =>
    obtain ⟨k, M, hk, rfl, hM, ⟨x0, rfl, o0⟩, hMo, hB⟩ := hrel
    have hMl : M.length ≤ 1000000 := by
      have := congrArg List.length hM
      simp at this
      omega
    by_cases hkl : k < L.length
    · have hkI : (k : Int) < (L.length : Int) := by omega
      obtain ⟨mb, mo, cap2, he, h1, h2, hc⟩ := hsl.open (by rintro rfl; simp at hkl)
      simp only [Value.slice.injEq] at he
      obtain ⟨rfl, -, rfl⟩ := he
      have ra := (Kept.of_below hB 0).range (hc k L[k] (List.getElem?_eq_getElem hkl))
      have r0 : wr.cell? ⟨mb, mo + k * 2, none⟩ = some (.int .i64 L[k].1) := ra 0 _ rfl
      have r1 : wr.cell? ⟨mb, mo + k * 2 + 1, none⟩ = some L[k].2.1 := ra 1 _ rfl
      have sw := (Kept.of_below hB 0).sl (hws L[k] (List.getElem_mem _))
      have hwx := hwl L[k] (List.getElem_mem _)
      obtain ⟨pw, cw, ew, -⟩ := sw.shape
      rw [ew] at r1 sw
      have hnx : ∀ v9, ((M ++ [(L[k].1, v9, L[k].2.2)]).map fun (x : Pt) => (x.1, x.2.2)) = ((L.take (k + 1)).map fun (x : Pt) => (x.1, x.2.2)) := fun v9 => by
        rw [List.take_succ_eq_append_getElem hkl, List.map_append, List.map_append, hM]; rfl
      replace hnx := hid hnx
      clear hc ra ew hM
      generalize L[k].2.2 = ws at *
      generalize L[k].1 = kd at *
      obtain ⟨px, qx, rfl, -, -⟩ := owns_shape o0
      have ownE : (wr.drew.alloc (.cells #[] 9)).ownsRow wr.heap.size 9 1 (.slice (some ⟨wr.heap.size, 0, none⟩) 0 0) 0 [] := owns_empty wr.drew wr.heap.size 9 1 (Nat.le_refl _)
      have bE : Below wr.heap.size wr (wr.drew.alloc (.cells #[] 9)) := (Below_dr (Below.refl wr.heap.size wr)).alloc (Nat.le_refl _) _
      have bEs := bE.size
      have slE := (Kept.of_below bE 0).sl sw
      have r0d : wr.drew.cell? ⟨mb, mo + k * 2, none⟩ = some (.int .i64 kd) := r0
      have r1d : wr.drew.cell? ⟨mb, mo + k * 2 + 1, none⟩ = some (.slice pw ws.length cw) := r1
      have r0e := (Kept.of_below bE 0).cell r0
      have r1e := (Kept.of_below bE 0).cell r1
      have r0f : (wr.alloc (.cells #[] 9)).cell? ⟨mb, mo + k * 2, none⟩ = some (.int .i64 kd) := r0e
      have r1f : (wr.alloc (.cells #[] 9)).cell? ⟨mb, mo + k * 2 + 1, none⟩ = some (.slice pw ws.length cw) := r1e
      go_upto_region 5 with (fail)
      refine wp_region_any (by kernel_rfl) ?_
      try (change wpAny _ _ _ _ _ _ _ (World.drew _))
      refine wpAny_take (i := 0) (oi := ⟨some 11, _, _, _, _, _⟩) (v := ?_) rfl (by kernel_rfl) (by kernel_rfl) (by kernel_rfl) (fun _ _ _ h => h) (Or.inl ⟨by rfl, ?_⟩) ?_
      rotate_left
      · intro w; go_simp <;> with_reducible rfl
      simp only [Act.put, List.setIfInBounds_toArray, List.set_cons_zero, List.set_cons_succ]
      refine wpAny_take (i := 1) (oi := ⟨some 12, _, _, _, _, _⟩) (v := ?_) rfl (by kernel_rfl) (by kernel_rfl) (by kernel_rfl) (fun _ _ _ h => h) (Or.inl ⟨by rfl, ?_⟩) ?_
      rotate_left
      · intro w; go_simp <;> with_reducible rfl
      simp only [Act.put, List.setIfInBounds_toArray, List.set_cons_zero, List.set_cons_succ]
      refine wpAny_take (i := 2) (oi := ⟨some 13, _, _, _, _, _⟩) (v := ?_) rfl (by kernel_rfl) (by kernel_rfl) (by kernel_rfl) (fun _ _ _ h => h) (Or.inl ⟨by rfl, ?_⟩) ?_
      rotate_left
      · intro w; go_simp <;> with_reducible rfl
      simp only [Act.put, List.setIfInBounds_toArray, List.set_cons_zero, List.set_cons_succ]
      refine wpAny_take (i := 3) (oi := ⟨some 14, _, _, _, _, _⟩) (v := ?_) rfl (by kernel_rfl) (by kernel_rfl) (by kernel_rfl) (fun _ _ _ h => h) (Or.inl ⟨by rfl, ?_⟩) ?_
      rotate_left
      · intro w; go_simp <;> with_reducible rfl
      simp only [Act.put, List.setIfInBounds_toArray, List.set_cons_zero, List.set_cons_succ]
      refine wpAny_take (i := 4) (oi := ⟨some 15, _, _, _, _, _⟩) (v := ?_) rfl (by kernel_rfl) (by kernel_rfl) (by kernel_rfl) (fun _ _ _ h => h) (Or.inl ⟨by rfl, ?_⟩) ?_
      rotate_left
      · intro w; go_simp <;> with_reducible rfl
      simp only [Act.put, List.setIfInBounds_toArray, List.set_cons_zero, List.set_cons_succ]
      refine wpAny_take (i := 7) (oi := ⟨some 18, _, _, _, _, _⟩) (v := ?_) rfl (by kernel_rfl) (by kernel_rfl) (by kernel_rfl) (fun _ _ _ h => h) (Or.inl ⟨by rfl, ?_⟩) ?_
      rotate_left
      · intro w; go_simp <;> with_reducible rfl
      simp only [Act.put, List.setIfInBounds_toArray, List.set_cons_zero, List.set_cons_succ]
      refine wpAny_take (i := 8) (oi := ⟨some 19, _, _, _, _, _⟩) (v := ?_) rfl (by kernel_rfl) (by kernel_rfl) (by kernel_rfl) (fun _ _ _ h => h) (Or.inl ⟨by rfl, ?_⟩) ?_
      rotate_left
      · intro w; go_simp <;> with_reducible rfl
      simp only [Act.put, List.setIfInBounds_toArray, List.set_cons_zero, List.set_cons_succ]
      refine wpAny_take (i := 9) (oi := ⟨some 20, _, _, _, _, _⟩) (v := ?_) rfl (by kernel_rfl) (by kernel_rfl) (by kernel_rfl) (fun _ _ _ h => h) (Or.inl ⟨by rfl, ?_⟩) ?_
      rotate_left
      · intro w; go_simp <;> with_reducible rfl
      simp only [Act.put, List.setIfInBounds_toArray, List.set_cons_zero, List.set_cons_succ]
      refine wpAny_take (i := 10) (oi := ⟨some 21, _, _, _, _, _⟩) (v := ?_) rfl (by kernel_rfl) (by kernel_rfl) (by kernel_rfl) (fun _ _ _ h => h) (Or.inl ⟨by rfl, ?_⟩) ?_
      rotate_left
      · intro w; go_simp <;> with_reducible rfl
      simp only [Act.put, List.setIfInBounds_toArray, List.set_cons_zero, List.set_cons_succ]
      refine wpAny_ready (rs := [5, 6, 11]) (by kernel_rfl) (by simp) ?_
      refine AllReady.cons rfl (fun K hK => ?_) ?_
      · go_simp
        first | refine hK _ _ ?_ | refine ⟨trivial, hK _ _ ?_⟩ | refine ⟨fun _ _ => trivial, hK _ _ ?_⟩
        clear hK K
        refine wpAny_ready (rs := [6, 11]) (by kernel_rfl) (by simp) ?_
        refine AllReady.cons rfl (fun K hK => ?_) ?_
        · go_simp
          first | refine hK _ _ ?_ | refine ⟨trivial, hK _ _ ?_⟩ | refine ⟨fun _ _ => trivial, hK _ _ ?_⟩
          clear hK K
          refine wpAny_ready (rs := [11]) (by kernel_rfl) (by simp) ?_
          refine AllReady.cons rfl (fun K hK => ?_) AllReady.nil
          go_simp
          first | refine hK _ _ ?_ | refine ⟨trivial, hK _ _ ?_⟩ | refine ⟨fun _ _ => trivial, hK _ _ ?_⟩
          clear hK K
          refine wpAny_ready (rs := [12]) (by kernel_rfl) (by simp) ?_
          refine BigFrame.allReady_want rfl (by rfl) (fun K hK => ?_) AllReady.nil
          refine wp_append_sl _ _ 37 rfl wr.heap.size 9 i0 (.string ⟨#[]⟩) 1 16 Tryd.underlying37 hi hz0 hz1 hz2 rfl (by decide) _ _ _ rfl ownE encT _ ws rfl slE (n1e ws) (by unfold maxLen; omega) (by omega) bEs (fun v2 V2 own2 grow2 _ => hK _ _ ?_)
          rw [Nat.zero_add, List.nil_append] at own2
          obtain ⟨p2, q2, rfl, -, -⟩ := owns_shape own2
          have b2 := bE.grown grow2 bE.size (fun _ e => own_base ownE e)
          have r0v := (Kept.of_below b2 0).cell r0
          have oV := ((Kept.of_below b2 0).owns o0).alloc (.cells #[.int .i64 kd, .slice p2 ws.length q2] 41)
          have slA : Sl (V2.alloc (.cells #[.int .i64 kd, .slice p2 ws.length q2] 41)) 2 encPt (.slice (some ⟨V2.heap.size, 0, none⟩) 1 1) [(kd, Value.slice p2 ws.length q2, ws)] := sl_of_block (l := [(kd, Value.slice p2 ws.length q2, ws)]) (World.alloc_heap_new V2 _) rfl (fun _ _ => rfl) (Nat.le_refl 1) (by decide)
          have b2a := b2.alloc b2.size (.cells #[.int .i64 kd, .slice p2 ws.length q2] 41)
          have hwS := SlS.of_owns own2
          clear hK K
          refine wpAny_ready (rs := [13]) (by kernel_rfl) (by simp) ?_
          refine AllReady.cons rfl (fun K hK => ?_) AllReady.nil
          go_simp
          first | refine hK _ _ ?_ | refine ⟨trivial, hK _ _ ?_⟩ | refine ⟨fun _ _ => trivial, hK _ _ ?_⟩
          clear hK K
          refine wpAny_ready (rs := [14]) (by kernel_rfl) (by simp) ?_
          refine AllReady.cons rfl (fun K hK => ?_) AllReady.nil
          go_simp
          first | refine hK _ _ ?_ | refine ⟨trivial, hK _ _ ?_⟩ | refine ⟨fun _ _ => trivial, hK _ _ ?_⟩
          clear hK K
          refine wpAny_ready (rs := [15]) (by kernel_rfl) (by simp) ?_
          refine BigFrame.allReady_want rfl (by rfl) (fun K hK => ?_) AllReady.nil
          refine wp_append_sl _ _ 22 rfl w.heap.size 41 j0 (.agg #[.int .i64 0, .slice none 0 0]) 2 32 Tryd.underlying22 hj hy0 hy1 hy2 rfl (by decide) _ _ _ rfl oV encPt _ [(kd, Value.slice p2 ws.length q2, ws)] rfl slA (fun x hx => by obtain rfl := List.mem_singleton.1 hx; exact ⟨rfl, fun u hu => by rcases List.mem_cons.1 hu with rfl | hu; rfl; obtain rfl := List.mem_singleton.1 hu; rfl⟩) (by unfold maxLen; simp only [List.length_cons, List.length_nil]; omega) (by simp only [List.length_cons, List.length_nil]; omega) (hB.trans (b2a.mono hB.size)).size (fun v4 V4 own4 grow4 _ => hK _ _ ?_)
          clear hK K
          refine wpAny_take (i := 16) (oi := ⟨some 3, _, _, _, _, _⟩) (v := ?_) rfl (by kernel_rfl) (by kernel_rfl) (by kernel_rfl) (fun _ _ _ h => h) (Or.inl ⟨by rfl, ?_⟩) ?_
          rotate_left
          · intro w; go_simp <;> with_reducible rfl
          simp only [Act.put, List.setIfInBounds_toArray, List.set_cons_zero, List.set_cons_succ]
          refine wpAny_done (by kernel_rfl) ?_ _
          go_wp2_with (fail)
          have hB4 := (hB.trans (b2a.mono hB.size)).grown grow4 (hB.trans (b2a.mono hB.size)).size (fun _ e => own_base oV e)
          have ag2 := AgS.of_below ((Below.refl V2.heap.size V2).alloc (Nat.le_refl _) (.cells #[.int .i64 kd, .slice p2 ws.length q2] 41))
          have ag4 := AgS.grown oV (by decide) grow4
          have agr := AgS.of_below b2
          rw [← List.length_append, ← List.flatMap_append] at own4
          first | (refine ⟨⟨k + 1, M ++ [(kd, Value.slice p2 ws.length q2, ws)], by omega, by go_num, hnx.out _, ⟨_, rfl, own4⟩, fun p hp => (List.mem_append.1 hp).elim (fun h => (((hMo p h).agr agr).agr ag2).agr ag4) (fun h => by obtain rfl := List.mem_singleton.1 h; exact (hwS.agr ag2).agr ag4), hB4⟩, ?_⟩; simp [RowKit.intOf]; omega) | (go_roundw; case rel => first | exact ⟨k + 1, M ++ [(kd, Value.slice p2 ws.length q2, ws)], by omega, by go_num, hnx.out _, ⟨_, rfl, own4⟩, fun p hp => (List.mem_append.1 hp).elim (fun h => (((hMo p h).agr agr).agr ag2).agr ag4) (fun h => by obtain rfl := List.mem_singleton.1 h; exact (hwS.agr ag2).agr ag4), hB4⟩ | ((repeat apply Exists.intro); exact ⟨⟨k + 1, M ++ [(kd, Value.slice p2 ws.length q2, ws)], by omega, by go_num, hnx.out _, ⟨_, rfl, own4⟩, fun p hp => (List.mem_append.1 hp).elim (fun h => (((hMo p h).agr agr).agr ag2).agr ag4) (fun h => by obtain rfl := List.mem_singleton.1 h; exact (hwS.agr ag2).agr ag4), hB4⟩, rfl⟩); case measure => simp [RowKit.intOf]; omega)
        refine AllReady.cons rfl (fun K hK => ?_) AllReady.nil
        go_simp
        first | refine hK _ _ ?_ | refine ⟨trivial, hK _ _ ?_⟩ | refine ⟨fun _ _ => trivial, hK _ _ ?_⟩
        clear hK K
        refine wpAny_ready (rs := [6]) (by kernel_rfl) (by simp) ?_
        refine AllReady.cons rfl (fun K hK => ?_) AllReady.nil
        go_simp
        first | refine hK _ _ ?_ | refine ⟨trivial, hK _ _ ?_⟩ | refine ⟨fun _ _ => trivial, hK _ _ ?_⟩
        clear hK K
        refine wpAny_ready (rs := [12]) (by kernel_rfl) (by simp) ?_
        refine BigFrame.allReady_want rfl (by rfl) (fun K hK => ?_) AllReady.nil
        refine wp_append_sl _ _ 37 rfl wr.heap.size 9 i0 (.string ⟨#[]⟩) 1 16 Tryd.underlying37 hi hz0 hz1 hz2 rfl (by decide) _ _ _ rfl ownE encT _ ws rfl slE (n1e ws) (by unfold maxLen; omega) (by omega) bEs (fun v2 V2 own2 grow2 _ => hK _ _ ?_)
        rw [Nat.zero_add, List.nil_append] at own2
        obtain ⟨p2, q2, rfl, -, -⟩ := owns_shape own2
        have b2 := bE.grown grow2 bE.size (fun _ e => own_base ownE e)
        have r0v := (Kept.of_below b2 0).cell r0
        have oV := ((Kept.of_below b2 0).owns o0).alloc (.cells #[.int .i64 kd, .slice p2 ws.length q2] 41)
        have slA : Sl (V2.alloc (.cells #[.int .i64 kd, .slice p2 ws.length q2] 41)) 2 encPt (.slice (some ⟨V2.heap.size, 0, none⟩) 1 1) [(kd, Value.slice p2 ws.length q2, ws)] := sl_of_block (l := [(kd, Value.slice p2 ws.length q2, ws)]) (World.alloc_heap_new V2 _) rfl (fun _ _ => rfl) (Nat.le_refl 1) (by decide)
        have b2a := b2.alloc b2.size (.cells #[.int .i64 kd, .slice p2 ws.length q2] 41)
        have hwS := SlS.of_owns own2
        clear hK K
        refine wpAny_ready (rs := [13]) (by kernel_rfl) (by simp) ?_
        refine AllReady.cons rfl (fun K hK => ?_) AllReady.nil
        go_simp
        first | refine hK _ _ ?_ | refine ⟨trivial, hK _ _ ?_⟩ | refine ⟨fun _ _ => trivial, hK _ _ ?_⟩
        clear hK K
        refine wpAny_ready (rs := [14]) (by kernel_rfl) (by simp) ?_
        refine AllReady.cons rfl (fun K hK => ?_) AllReady.nil
        go_simp
        first | refine hK _ _ ?_ | refine ⟨trivial, hK _ _ ?_⟩ | refine ⟨fun _ _ => trivial, hK _ _ ?_⟩
        clear hK K
        refine wpAny_ready (rs := [15]) (by kernel_rfl) (by simp) ?_
        refine BigFrame.allReady_want rfl (by rfl) (fun K hK => ?_) AllReady.nil
        refine wp_append_sl _ _ 22 rfl w.heap.size 41 j0 (.agg #[.int .i64 0, .slice none 0 0]) 2 32 Tryd.underlying22 hj hy0 hy1 hy2 rfl (by decide) _ _ _ rfl oV encPt _ [(kd, Value.slice p2 ws.length q2, ws)] rfl slA (fun x hx => by obtain rfl := List.mem_singleton.1 hx; exact ⟨rfl, fun u hu => by rcases List.mem_cons.1 hu with rfl | hu; rfl; obtain rfl := List.mem_singleton.1 hu; rfl⟩) (by unfold maxLen; simp only [List.length_cons, List.length_nil]; omega) (by simp only [List.length_cons, List.length_nil]; omega) (hB.trans (b2a.mono hB.size)).size (fun v4 V4 own4 grow4 _ => hK _ _ ?_)
        clear hK K
        refine wpAny_take (i := 16) (oi := ⟨some 3, _, _, _, _, _⟩) (v := ?_) rfl (by kernel_rfl) (by kernel_rfl) (by kernel_rfl) (fun _ _ _ h => h) (Or.inl ⟨by rfl, ?_⟩) ?_
        rotate_left
        · intro w; go_simp <;> with_reducible rfl
        simp only [Act.put, List.setIfInBounds_toArray, List.set_cons_zero, List.set_cons_succ]
        refine wpAny_done (by kernel_rfl) ?_ _
        go_wp2_with (fail)
        have hB4 := (hB.trans (b2a.mono hB.size)).grown grow4 (hB.trans (b2a.mono hB.size)).size (fun _ e => own_base oV e)
        have ag2 := AgS.of_below ((Below.refl V2.heap.size V2).alloc (Nat.le_refl _) (.cells #[.int .i64 kd, .slice p2 ws.length q2] 41))
        have ag4 := AgS.grown oV (by decide) grow4
        have agr := AgS.of_below b2
        rw [← List.length_append, ← List.flatMap_append] at own4
        first | (refine ⟨⟨k + 1, M ++ [(kd, Value.slice p2 ws.length q2, ws)], by omega, by go_num, hnx.out _, ⟨_, rfl, own4⟩, fun p hp => (List.mem_append.1 hp).elim (fun h => (((hMo p h).agr agr).agr ag2).agr ag4) (fun h => by obtain rfl := List.mem_singleton.1 h; exact (hwS.agr ag2).agr ag4), hB4⟩, ?_⟩; simp [RowKit.intOf]; omega) | (go_roundw; case rel => first | exact ⟨k + 1, M ++ [(kd, Value.slice p2 ws.length q2, ws)], by omega, by go_num, hnx.out _, ⟨_, rfl, own4⟩, fun p hp => (List.mem_append.1 hp).elim (fun h => (((hMo p h).agr agr).agr ag2).agr ag4) (fun h => by obtain rfl := List.mem_singleton.1 h; exact (hwS.agr ag2).agr ag4), hB4⟩ | ((repeat apply Exists.intro); exact ⟨⟨k + 1, M ++ [(kd, Value.slice p2 ws.length q2, ws)], by omega, by go_num, hnx.out _, ⟨_, rfl, own4⟩, fun p hp => (List.mem_append.1 hp).elim (fun h => (((hMo p h).agr agr).agr ag2).agr ag4) (fun h => by obtain rfl := List.mem_singleton.1 h; exact (hwS.agr ag2).agr ag4), hB4⟩, rfl⟩); case measure => simp [RowKit.intOf]; omega)
      refine AllReady.cons rfl (fun K hK => ?_) ?_
      · go_simp
        first | refine hK _ _ ?_ | refine ⟨trivial, hK _ _ ?_⟩ | refine ⟨fun _ _ => trivial, hK _ _ ?_⟩
        clear hK K
        refine wpAny_ready (rs := [5, 11]) (by kernel_rfl) (by simp) ?_
        refine AllReady.cons rfl (fun K hK => ?_) ?_
        · go_simp
          first | refine hK _ _ ?_ | refine ⟨trivial, hK _ _ ?_⟩ | refine ⟨fun _ _ => trivial, hK _ _ ?_⟩
          clear hK K
          refine wpAny_ready (rs := [11]) (by kernel_rfl) (by simp) ?_
          refine AllReady.cons rfl (fun K hK => ?_) AllReady.nil
          go_simp
          first | refine hK _ _ ?_ | refine ⟨trivial, hK _ _ ?_⟩ | refine ⟨fun _ _ => trivial, hK _ _ ?_⟩
          clear hK K
          refine wpAny_ready (rs := [12]) (by kernel_rfl) (by simp) ?_
          refine BigFrame.allReady_want rfl (by rfl) (fun K hK => ?_) AllReady.nil
          refine wp_append_sl _ _ 37 rfl wr.heap.size 9 i0 (.string ⟨#[]⟩) 1 16 Tryd.underlying37 hi hz0 hz1 hz2 rfl (by decide) _ _ _ rfl ownE encT _ ws rfl slE (n1e ws) (by unfold maxLen; omega) (by omega) bEs (fun v2 V2 own2 grow2 _ => hK _ _ ?_)
          rw [Nat.zero_add, List.nil_append] at own2
          obtain ⟨p2, q2, rfl, -, -⟩ := owns_shape own2
          have b2 := bE.grown grow2 bE.size (fun _ e => own_base ownE e)
          have r0v := (Kept.of_below b2 0).cell r0
          have oV := ((Kept.of_below b2 0).owns o0).alloc (.cells #[.int .i64 kd, .slice p2 ws.length q2] 41)
          have slA : Sl (V2.alloc (.cells #[.int .i64 kd, .slice p2 ws.length q2] 41)) 2 encPt (.slice (some ⟨V2.heap.size, 0, none⟩) 1 1) [(kd, Value.slice p2 ws.length q2, ws)] := sl_of_block (l := [(kd, Value.slice p2 ws.length q2, ws)]) (World.alloc_heap_new V2 _) rfl (fun _ _ => rfl) (Nat.le_refl 1) (by decide)
          have b2a := b2.alloc b2.size (.cells #[.int .i64 kd, .slice p2 ws.length q2] 41)
          have hwS := SlS.of_owns own2
          clear hK K
          refine wpAny_ready (rs := [13]) (by kernel_rfl) (by simp) ?_
          refine AllReady.cons rfl (fun K hK => ?_) AllReady.nil
          go_simp
          first | refine hK _ _ ?_ | refine ⟨trivial, hK _ _ ?_⟩ | refine ⟨fun _ _ => trivial, hK _ _ ?_⟩
          clear hK K
          refine wpAny_ready (rs := [14]) (by kernel_rfl) (by simp) ?_
          refine AllReady.cons rfl (fun K hK => ?_) AllReady.nil
          go_simp
          first | refine hK _ _ ?_ | refine ⟨trivial, hK _ _ ?_⟩ | refine ⟨fun _ _ => trivial, hK _ _ ?_⟩
          clear hK K
          refine wpAny_ready (rs := [15]) (by kernel_rfl) (by simp) ?_
          refine BigFrame.allReady_want rfl (by rfl) (fun K hK => ?_) AllReady.nil
          refine wp_append_sl _ _ 22 rfl w.heap.size 41 j0 (.agg #[.int .i64 0, .slice none 0 0]) 2 32 Tryd.underlying22 hj hy0 hy1 hy2 rfl (by decide) _ _ _ rfl oV encPt _ [(kd, Value.slice p2 ws.length q2, ws)] rfl slA (fun x hx => by obtain rfl := List.mem_singleton.1 hx; exact ⟨rfl, fun u hu => by rcases List.mem_cons.1 hu with rfl | hu; rfl; obtain rfl := List.mem_singleton.1 hu; rfl⟩) (by unfold maxLen; simp only [List.length_cons, List.length_nil]; omega) (by simp only [List.length_cons, List.length_nil]; omega) (hB.trans (b2a.mono hB.size)).size (fun v4 V4 own4 grow4 _ => hK _ _ ?_)
          clear hK K
          refine wpAny_take (i := 16) (oi := ⟨some 3, _, _, _, _, _⟩) (v := ?_) rfl (by kernel_rfl) (by kernel_rfl) (by kernel_rfl) (fun _ _ _ h => h) (Or.inl ⟨by rfl, ?_⟩) ?_
          rotate_left
          · intro w; go_simp <;> with_reducible rfl
          simp only [Act.put, List.setIfInBounds_toArray, List.set_cons_zero, List.set_cons_succ]
          refine wpAny_done (by kernel_rfl) ?_ _
          go_wp2_with (fail)
          have hB4 := (hB.trans (b2a.mono hB.size)).grown grow4 (hB.trans (b2a.mono hB.size)).size (fun _ e => own_base oV e)
          have ag2 := AgS.of_below ((Below.refl V2.heap.size V2).alloc (Nat.le_refl _) (.cells #[.int .i64 kd, .slice p2 ws.length q2] 41))
          have ag4 := AgS.grown oV (by decide) grow4
          have agr := AgS.of_below b2
          rw [← List.length_append, ← List.flatMap_append] at own4
          first | (refine ⟨⟨k + 1, M ++ [(kd, Value.slice p2 ws.length q2, ws)], by omega, by go_num, hnx.out _, ⟨_, rfl, own4⟩, fun p hp => (List.mem_append.1 hp).elim (fun h => (((hMo p h).agr agr).agr ag2).agr ag4) (fun h => by obtain rfl := List.mem_singleton.1 h; exact (hwS.agr ag2).agr ag4), hB4⟩, ?_⟩; simp [RowKit.intOf]; omega) | (go_roundw; case rel => first | exact ⟨k + 1, M ++ [(kd, Value.slice p2 ws.length q2, ws)], by omega, by go_num, hnx.out _, ⟨_, rfl, own4⟩, fun p hp => (List.mem_append.1 hp).elim (fun h => (((hMo p h).agr agr).agr ag2).agr ag4) (fun h => by obtain rfl := List.mem_singleton.1 h; exact (hwS.agr ag2).agr ag4), hB4⟩ | ((repeat apply Exists.intro); exact ⟨⟨k + 1, M ++ [(kd, Value.slice p2 ws.length q2, ws)], by omega, by go_num, hnx.out _, ⟨_, rfl, own4⟩, fun p hp => (List.mem_append.1 hp).elim (fun h => (((hMo p h).agr agr).agr ag2).agr ag4) (fun h => by obtain rfl := List.mem_singleton.1 h; exact (hwS.agr ag2).agr ag4), hB4⟩, rfl⟩); case measure => simp [RowKit.intOf]; omega)
        refine AllReady.cons rfl (fun K hK => ?_) AllReady.nil
        go_simp
        first | refine hK _ _ ?_ | refine ⟨trivial, hK _ _ ?_⟩ | refine ⟨fun _ _ => trivial, hK _ _ ?_⟩
        clear hK K
        refine wpAny_ready (rs := [5, 12]) (by kernel_rfl) (by simp) ?_
        refine AllReady.cons rfl (fun K hK => ?_) ?_
        · go_simp
          first | refine hK _ _ ?_ | refine ⟨trivial, hK _ _ ?_⟩ | refine ⟨fun _ _ => trivial, hK _ _ ?_⟩
          clear hK K
          refine wpAny_ready (rs := [12]) (by kernel_rfl) (by simp) ?_
          refine BigFrame.allReady_want rfl (by rfl) (fun K hK => ?_) AllReady.nil
          refine wp_append_sl _ _ 37 rfl wr.heap.size 9 i0 (.string ⟨#[]⟩) 1 16 Tryd.underlying37 hi hz0 hz1 hz2 rfl (by decide) _ _ _ rfl ownE encT _ ws rfl slE (n1e ws) (by unfold maxLen; omega) (by omega) bEs (fun v2 V2 own2 grow2 _ => hK _ _ ?_)
          rw [Nat.zero_add, List.nil_append] at own2
          obtain ⟨p2, q2, rfl, -, -⟩ := owns_shape own2
          have b2 := bE.grown grow2 bE.size (fun _ e => own_base ownE e)
          have r0v := (Kept.of_below b2 0).cell r0
          have oV := ((Kept.of_below b2 0).owns o0).alloc (.cells #[.int .i64 kd, .slice p2 ws.length q2] 41)
          have slA : Sl (V2.alloc (.cells #[.int .i64 kd, .slice p2 ws.length q2] 41)) 2 encPt (.slice (some ⟨V2.heap.size, 0, none⟩) 1 1) [(kd, Value.slice p2 ws.length q2, ws)] := sl_of_block (l := [(kd, Value.slice p2 ws.length q2, ws)]) (World.alloc_heap_new V2 _) rfl (fun _ _ => rfl) (Nat.le_refl 1) (by decide)
          have b2a := b2.alloc b2.size (.cells #[.int .i64 kd, .slice p2 ws.length q2] 41)
          have hwS := SlS.of_owns own2
          clear hK K
          refine wpAny_ready (rs := [13]) (by kernel_rfl) (by simp) ?_
          refine AllReady.cons rfl (fun K hK => ?_) AllReady.nil
          go_simp
          first | refine hK _ _ ?_ | refine ⟨trivial, hK _ _ ?_⟩ | refine ⟨fun _ _ => trivial, hK _ _ ?_⟩
          clear hK K
          refine wpAny_ready (rs := [14]) (by kernel_rfl) (by simp) ?_
          refine AllReady.cons rfl (fun K hK => ?_) AllReady.nil
          go_simp
          first | refine hK _ _ ?_ | refine ⟨trivial, hK _ _ ?_⟩ | refine ⟨fun _ _ => trivial, hK _ _ ?_⟩
          clear hK K
          refine wpAny_ready (rs := [15]) (by kernel_rfl) (by simp) ?_
          refine BigFrame.allReady_want rfl (by rfl) (fun K hK => ?_) AllReady.nil
          refine wp_append_sl _ _ 22 rfl w.heap.size 41 j0 (.agg #[.int .i64 0, .slice none 0 0]) 2 32 Tryd.underlying22 hj hy0 hy1 hy2 rfl (by decide) _ _ _ rfl oV encPt _ [(kd, Value.slice p2 ws.length q2, ws)] rfl slA (fun x hx => by obtain rfl := List.mem_singleton.1 hx; exact ⟨rfl, fun u hu => by rcases List.mem_cons.1 hu with rfl | hu; rfl; obtain rfl := List.mem_singleton.1 hu; rfl⟩) (by unfold maxLen; simp only [List.length_cons, List.length_nil]; omega) (by simp only [List.length_cons, List.length_nil]; omega) (hB.trans (b2a.mono hB.size)).size (fun v4 V4 own4 grow4 _ => hK _ _ ?_)
          clear hK K
          refine wpAny_take (i := 16) (oi := ⟨some 3, _, _, _, _, _⟩) (v := ?_) rfl (by kernel_rfl) (by kernel_rfl) (by kernel_rfl) (fun _ _ _ h => h) (Or.inl ⟨by rfl, ?_⟩) ?_
          rotate_left
          · intro w; go_simp <;> with_reducible rfl
          simp only [Act.put, List.setIfInBounds_toArray, List.set_cons_zero, List.set_cons_succ]
          refine wpAny_done (by kernel_rfl) ?_ _
          go_wp2_with (fail)
          have hB4 := (hB.trans (b2a.mono hB.size)).grown grow4 (hB.trans (b2a.mono hB.size)).size (fun _ e => own_base oV e)
          have ag2 := AgS.of_below ((Below.refl V2.heap.size V2).alloc (Nat.le_refl _) (.cells #[.int .i64 kd, .slice p2 ws.length q2] 41))
          have ag4 := AgS.grown oV (by decide) grow4
          have agr := AgS.of_below b2
          rw [← List.length_append, ← List.flatMap_append] at own4
          first | (refine ⟨⟨k + 1, M ++ [(kd, Value.slice p2 ws.length q2, ws)], by omega, by go_num, hnx.out _, ⟨_, rfl, own4⟩, fun p hp => (List.mem_append.1 hp).elim (fun h => (((hMo p h).agr agr).agr ag2).agr ag4) (fun h => by obtain rfl := List.mem_singleton.1 h; exact (hwS.agr ag2).agr ag4), hB4⟩, ?_⟩; simp [RowKit.intOf]; omega) | (go_roundw; case rel => first | exact ⟨k + 1, M ++ [(kd, Value.slice p2 ws.length q2, ws)], by omega, by go_num, hnx.out _, ⟨_, rfl, own4⟩, fun p hp => (List.mem_append.1 hp).elim (fun h => (((hMo p h).agr agr).agr ag2).agr ag4) (fun h => by obtain rfl := List.mem_singleton.1 h; exact (hwS.agr ag2).agr ag4), hB4⟩ | ((repeat apply Exists.intro); exact ⟨⟨k + 1, M ++ [(kd, Value.slice p2 ws.length q2, ws)], by omega, by go_num, hnx.out _, ⟨_, rfl, own4⟩, fun p hp => (List.mem_append.1 hp).elim (fun h => (((hMo p h).agr agr).agr ag2).agr ag4) (fun h => by obtain rfl := List.mem_singleton.1 h; exact (hwS.agr ag2).agr ag4), hB4⟩, rfl⟩); case measure => simp [RowKit.intOf]; omega)
        refine BigFrame.allReady_want rfl (by rfl) (fun K hK => ?_) AllReady.nil
        refine wp_append_sl _ _ 37 rfl wr.heap.size 9 i0 (.string ⟨#[]⟩) 1 16 Tryd.underlying37 hi hz0 hz1 hz2 rfl (by decide) _ _ _ rfl ownE encT _ ws rfl slE (n1e ws) (by unfold maxLen; omega) (by omega) bEs (fun v2 V2 own2 grow2 _ => hK _ _ ?_)
        rw [Nat.zero_add, List.nil_append] at own2
        obtain ⟨p2, q2, rfl, -, -⟩ := owns_shape own2
        have b2 := bE.grown grow2 bE.size (fun _ e => own_base ownE e)
        have r0v := (Kept.of_below b2 0).cell r0
        have oV := ((Kept.of_below b2 0).owns o0).alloc (.cells #[.int .i64 kd, .slice p2 ws.length q2] 41)
        have slA : Sl (V2.alloc (.cells #[.int .i64 kd, .slice p2 ws.length q2] 41)) 2 encPt (.slice (some ⟨V2.heap.size, 0, none⟩) 1 1) [(kd, Value.slice p2 ws.length q2, ws)] := sl_of_block (l := [(kd, Value.slice p2 ws.length q2, ws)]) (World.alloc_heap_new V2 _) rfl (fun _ _ => rfl) (Nat.le_refl 1) (by decide)
        have b2a := b2.alloc b2.size (.cells #[.int .i64 kd, .slice p2 ws.length q2] 41)
        have hwS := SlS.of_owns own2
        clear hK K
        refine wpAny_ready (rs := [5]) (by kernel_rfl) (by simp) ?_
        refine AllReady.cons rfl (fun K hK => ?_) AllReady.nil
        go_simp
        first | refine hK _ _ ?_ | refine ⟨trivial, hK _ _ ?_⟩ | refine ⟨fun _ _ => trivial, hK _ _ ?_⟩
        clear hK K
        refine wpAny_ready (rs := [13]) (by kernel_rfl) (by simp) ?_
        refine AllReady.cons rfl (fun K hK => ?_) AllReady.nil
        go_simp
        first | refine hK _ _ ?_ | refine ⟨trivial, hK _ _ ?_⟩ | refine ⟨fun _ _ => trivial, hK _ _ ?_⟩
        clear hK K
        refine wpAny_ready (rs := [14]) (by kernel_rfl) (by simp) ?_
        refine AllReady.cons rfl (fun K hK => ?_) AllReady.nil
        go_simp
        first | refine hK _ _ ?_ | refine ⟨trivial, hK _ _ ?_⟩ | refine ⟨fun _ _ => trivial, hK _ _ ?_⟩
        clear hK K
        refine wpAny_ready (rs := [15]) (by kernel_rfl) (by simp) ?_
        refine BigFrame.allReady_want rfl (by rfl) (fun K hK => ?_) AllReady.nil
        refine wp_append_sl _ _ 22 rfl w.heap.size 41 j0 (.agg #[.int .i64 0, .slice none 0 0]) 2 32 Tryd.underlying22 hj hy0 hy1 hy2 rfl (by decide) _ _ _ rfl oV encPt _ [(kd, Value.slice p2 ws.length q2, ws)] rfl slA (fun x hx => by obtain rfl := List.mem_singleton.1 hx; exact ⟨rfl, fun u hu => by rcases List.mem_cons.1 hu with rfl | hu; rfl; obtain rfl := List.mem_singleton.1 hu; rfl⟩) (by unfold maxLen; simp only [List.length_cons, List.length_nil]; omega) (by simp only [List.length_cons, List.length_nil]; omega) (hB.trans (b2a.mono hB.size)).size (fun v4 V4 own4 grow4 _ => hK _ _ ?_)
        clear hK K
        refine wpAny_take (i := 16) (oi := ⟨some 3, _, _, _, _, _⟩) (v := ?_) rfl (by kernel_rfl) (by kernel_rfl) (by kernel_rfl) (fun _ _ _ h => h) (Or.inl ⟨by rfl, ?_⟩) ?_
        rotate_left
        · intro w; go_simp <;> with_reducible rfl
        simp only [Act.put, List.setIfInBounds_toArray, List.set_cons_zero, List.set_cons_succ]
        refine wpAny_done (by kernel_rfl) ?_ _
        go_wp2_with (fail)
        have hB4 := (hB.trans (b2a.mono hB.size)).grown grow4 (hB.trans (b2a.mono hB.size)).size (fun _ e => own_base oV e)
        have ag2 := AgS.of_below ((Below.refl V2.heap.size V2).alloc (Nat.le_refl _) (.cells #[.int .i64 kd, .slice p2 ws.length q2] 41))
        have ag4 := AgS.grown oV (by decide) grow4
        have agr := AgS.of_below b2
        rw [← List.length_append, ← List.flatMap_append] at own4
        first | (refine ⟨⟨k + 1, M ++ [(kd, Value.slice p2 ws.length q2, ws)], by omega, by go_num, hnx.out _, ⟨_, rfl, own4⟩, fun p hp => (List.mem_append.1 hp).elim (fun h => (((hMo p h).agr agr).agr ag2).agr ag4) (fun h => by obtain rfl := List.mem_singleton.1 h; exact (hwS.agr ag2).agr ag4), hB4⟩, ?_⟩; simp [RowKit.intOf]; omega) | (go_roundw; case rel => first | exact ⟨k + 1, M ++ [(kd, Value.slice p2 ws.length q2, ws)], by omega, by go_num, hnx.out _, ⟨_, rfl, own4⟩, fun p hp => (List.mem_append.1 hp).elim (fun h => (((hMo p h).agr agr).agr ag2).agr ag4) (fun h => by obtain rfl := List.mem_singleton.1 h; exact (hwS.agr ag2).agr ag4), hB4⟩ | ((repeat apply Exists.intro); exact ⟨⟨k + 1, M ++ [(kd, Value.slice p2 ws.length q2, ws)], by omega, by go_num, hnx.out _, ⟨_, rfl, own4⟩, fun p hp => (List.mem_append.1 hp).elim (fun h => (((hMo p h).agr agr).agr ag2).agr ag4) (fun h => by obtain rfl := List.mem_singleton.1 h; exact (hwS.agr ag2).agr ag4), hB4⟩, rfl⟩); case measure => simp [RowKit.intOf]; omega)
      refine AllReady.cons rfl (fun K hK => ?_) AllReady.nil
      go_simp
      first | refine hK _ _ ?_ | refine ⟨trivial, hK _ _ ?_⟩ | refine ⟨fun _ _ => trivial, hK _ _ ?_⟩
      clear hK K
      refine wpAny_ready (rs := [5, 6]) (by kernel_rfl) (by simp) ?_
      refine AllReady.cons rfl (fun K hK => ?_) ?_
      · go_simp
        first | refine hK _ _ ?_ | refine ⟨trivial, hK _ _ ?_⟩ | refine ⟨fun _ _ => trivial, hK _ _ ?_⟩
        clear hK K
        refine wpAny_ready (rs := [6]) (by kernel_rfl) (by simp) ?_
        refine AllReady.cons rfl (fun K hK => ?_) AllReady.nil
        go_simp
        first | refine hK _ _ ?_ | refine ⟨trivial, hK _ _ ?_⟩ | refine ⟨fun _ _ => trivial, hK _ _ ?_⟩
        clear hK K
        refine wpAny_ready (rs := [12]) (by kernel_rfl) (by simp) ?_
        refine BigFrame.allReady_want rfl (by rfl) (fun K hK => ?_) AllReady.nil
        refine wp_append_sl _ _ 37 rfl wr.heap.size 9 i0 (.string ⟨#[]⟩) 1 16 Tryd.underlying37 hi hz0 hz1 hz2 rfl (by decide) _ _ _ rfl ownE encT _ ws rfl slE (n1e ws) (by unfold maxLen; omega) (by omega) bEs (fun v2 V2 own2 grow2 _ => hK _ _ ?_)
        rw [Nat.zero_add, List.nil_append] at own2
        obtain ⟨p2, q2, rfl, -, -⟩ := owns_shape own2
        have b2 := bE.grown grow2 bE.size (fun _ e => own_base ownE e)
        have r0v := (Kept.of_below b2 0).cell r0
        have oV := ((Kept.of_below b2 0).owns o0).alloc (.cells #[.int .i64 kd, .slice p2 ws.length q2] 41)
        have slA : Sl (V2.alloc (.cells #[.int .i64 kd, .slice p2 ws.length q2] 41)) 2 encPt (.slice (some ⟨V2.heap.size, 0, none⟩) 1 1) [(kd, Value.slice p2 ws.length q2, ws)] := sl_of_block (l := [(kd, Value.slice p2 ws.length q2, ws)]) (World.alloc_heap_new V2 _) rfl (fun _ _ => rfl) (Nat.le_refl 1) (by decide)
        have b2a := b2.alloc b2.size (.cells #[.int .i64 kd, .slice p2 ws.length q2] 41)
        have hwS := SlS.of_owns own2
        clear hK K
        refine wpAny_ready (rs := [13]) (by kernel_rfl) (by simp) ?_
        refine AllReady.cons rfl (fun K hK => ?_) AllReady.nil
        go_simp
        first | refine hK _ _ ?_ | refine ⟨trivial, hK _ _ ?_⟩ | refine ⟨fun _ _ => trivial, hK _ _ ?_⟩
        clear hK K
        refine wpAny_ready (rs := [14]) (by kernel_rfl) (by simp) ?_
        refine AllReady.cons rfl (fun K hK => ?_) AllReady.nil
        go_simp
        first | refine hK _ _ ?_ | refine ⟨trivial, hK _ _ ?_⟩ | refine ⟨fun _ _ => trivial, hK _ _ ?_⟩
        clear hK K
        refine wpAny_ready (rs := [15]) (by kernel_rfl) (by simp) ?_
        refine BigFrame.allReady_want rfl (by rfl) (fun K hK => ?_) AllReady.nil
        refine wp_append_sl _ _ 22 rfl w.heap.size 41 j0 (.agg #[.int .i64 0, .slice none 0 0]) 2 32 Tryd.underlying22 hj hy0 hy1 hy2 rfl (by decide) _ _ _ rfl oV encPt _ [(kd, Value.slice p2 ws.length q2, ws)] rfl slA (fun x hx => by obtain rfl := List.mem_singleton.1 hx; exact ⟨rfl, fun u hu => by rcases List.mem_cons.1 hu with rfl | hu; rfl; obtain rfl := List.mem_singleton.1 hu; rfl⟩) (by unfold maxLen; simp only [List.length_cons, List.length_nil]; omega) (by simp only [List.length_cons, List.length_nil]; omega) (hB.trans (b2a.mono hB.size)).size (fun v4 V4 own4 grow4 _ => hK _ _ ?_)
        clear hK K
        refine wpAny_take (i := 16) (oi := ⟨some 3, _, _, _, _, _⟩) (v := ?_) rfl (by kernel_rfl) (by kernel_rfl) (by kernel_rfl) (fun _ _ _ h => h) (Or.inl ⟨by rfl, ?_⟩) ?_
        rotate_left
        · intro w; go_simp <;> with_reducible rfl
        simp only [Act.put, List.setIfInBounds_toArray, List.set_cons_zero, List.set_cons_succ]
        refine wpAny_done (by kernel_rfl) ?_ _
        go_wp2_with (fail)
        have hB4 := (hB.trans (b2a.mono hB.size)).grown grow4 (hB.trans (b2a.mono hB.size)).size (fun _ e => own_base oV e)
        have ag2 := AgS.of_below ((Below.refl V2.heap.size V2).alloc (Nat.le_refl _) (.cells #[.int .i64 kd, .slice p2 ws.length q2] 41))
        have ag4 := AgS.grown oV (by decide) grow4
        have agr := AgS.of_below b2
        rw [← List.length_append, ← List.flatMap_append] at own4
        first | (refine ⟨⟨k + 1, M ++ [(kd, Value.slice p2 ws.length q2, ws)], by omega, by go_num, hnx.out _, ⟨_, rfl, own4⟩, fun p hp => (List.mem_append.1 hp).elim (fun h => (((hMo p h).agr agr).agr ag2).agr ag4) (fun h => by obtain rfl := List.mem_singleton.1 h; exact (hwS.agr ag2).agr ag4), hB4⟩, ?_⟩; simp [RowKit.intOf]; omega) | (go_roundw; case rel => first | exact ⟨k + 1, M ++ [(kd, Value.slice p2 ws.length q2, ws)], by omega, by go_num, hnx.out _, ⟨_, rfl, own4⟩, fun p hp => (List.mem_append.1 hp).elim (fun h => (((hMo p h).agr agr).agr ag2).agr ag4) (fun h => by obtain rfl := List.mem_singleton.1 h; exact (hwS.agr ag2).agr ag4), hB4⟩ | ((repeat apply Exists.intro); exact ⟨⟨k + 1, M ++ [(kd, Value.slice p2 ws.length q2, ws)], by omega, by go_num, hnx.out _, ⟨_, rfl, own4⟩, fun p hp => (List.mem_append.1 hp).elim (fun h => (((hMo p h).agr agr).agr ag2).agr ag4) (fun h => by obtain rfl := List.mem_singleton.1 h; exact (hwS.agr ag2).agr ag4), hB4⟩, rfl⟩); case measure => simp [RowKit.intOf]; omega)
      refine AllReady.cons rfl (fun K hK => ?_) AllReady.nil
      go_simp
      first | refine hK _ _ ?_ | refine ⟨trivial, hK _ _ ?_⟩ | refine ⟨fun _ _ => trivial, hK _ _ ?_⟩
      clear hK K
      refine wpAny_ready (rs := [5, 12]) (by kernel_rfl) (by simp) ?_
      refine AllReady.cons rfl (fun K hK => ?_) ?_
      · go_simp
        first | refine hK _ _ ?_ | refine ⟨trivial, hK _ _ ?_⟩ | refine ⟨fun _ _ => trivial, hK _ _ ?_⟩
        clear hK K
        refine wpAny_ready (rs := [12]) (by kernel_rfl) (by simp) ?_
        refine BigFrame.allReady_want rfl (by rfl) (fun K hK => ?_) AllReady.nil
        refine wp_append_sl _ _ 37 rfl wr.heap.size 9 i0 (.string ⟨#[]⟩) 1 16 Tryd.underlying37 hi hz0 hz1 hz2 rfl (by decide) _ _ _ rfl ownE encT _ ws rfl slE (n1e ws) (by unfold maxLen; omega) (by omega) bEs (fun v2 V2 own2 grow2 _ => hK _ _ ?_)
        rw [Nat.zero_add, List.nil_append] at own2
        obtain ⟨p2, q2, rfl, -, -⟩ := owns_shape own2
        have b2 := bE.grown grow2 bE.size (fun _ e => own_base ownE e)
        have r0v := (Kept.of_below b2 0).cell r0
        have oV := ((Kept.of_below b2 0).owns o0).alloc (.cells #[.int .i64 kd, .slice p2 ws.length q2] 41)
        have slA : Sl (V2.alloc (.cells #[.int .i64 kd, .slice p2 ws.length q2] 41)) 2 encPt (.slice (some ⟨V2.heap.size, 0, none⟩) 1 1) [(kd, Value.slice p2 ws.length q2, ws)] := sl_of_block (l := [(kd, Value.slice p2 ws.length q2, ws)]) (World.alloc_heap_new V2 _) rfl (fun _ _ => rfl) (Nat.le_refl 1) (by decide)
        have b2a := b2.alloc b2.size (.cells #[.int .i64 kd, .slice p2 ws.length q2] 41)
        have hwS := SlS.of_owns own2
        clear hK K
        refine wpAny_ready (rs := [13]) (by kernel_rfl) (by simp) ?_
        refine AllReady.cons rfl (fun K hK => ?_) AllReady.nil
        go_simp
        first | refine hK _ _ ?_ | refine ⟨trivial, hK _ _ ?_⟩ | refine ⟨fun _ _ => trivial, hK _ _ ?_⟩
        clear hK K
        refine wpAny_ready (rs := [14]) (by kernel_rfl) (by simp) ?_
        refine AllReady.cons rfl (fun K hK => ?_) AllReady.nil
        go_simp
        first | refine hK _ _ ?_ | refine ⟨trivial, hK _ _ ?_⟩ | refine ⟨fun _ _ => trivial, hK _ _ ?_⟩
        clear hK K
        refine wpAny_ready (rs := [15]) (by kernel_rfl) (by simp) ?_
        refine BigFrame.allReady_want rfl (by rfl) (fun K hK => ?_) AllReady.nil
        refine wp_append_sl _ _ 22 rfl w.heap.size 41 j0 (.agg #[.int .i64 0, .slice none 0 0]) 2 32 Tryd.underlying22 hj hy0 hy1 hy2 rfl (by decide) _ _ _ rfl oV encPt _ [(kd, Value.slice p2 ws.length q2, ws)] rfl slA (fun x hx => by obtain rfl := List.mem_singleton.1 hx; exact ⟨rfl, fun u hu => by rcases List.mem_cons.1 hu with rfl | hu; rfl; obtain rfl := List.mem_singleton.1 hu; rfl⟩) (by unfold maxLen; simp only [List.length_cons, List.length_nil]; omega) (by simp only [List.length_cons, List.length_nil]; omega) (hB.trans (b2a.mono hB.size)).size (fun v4 V4 own4 grow4 _ => hK _ _ ?_)
        clear hK K
        refine wpAny_take (i := 16) (oi := ⟨some 3, _, _, _, _, _⟩) (v := ?_) rfl (by kernel_rfl) (by kernel_rfl) (by kernel_rfl) (fun _ _ _ h => h) (Or.inl ⟨by rfl, ?_⟩) ?_
        rotate_left
        · intro w; go_simp <;> with_reducible rfl
        simp only [Act.put, List.setIfInBounds_toArray, List.set_cons_zero, List.set_cons_succ]
        refine wpAny_done (by kernel_rfl) ?_ _
        go_wp2_with (fail)
        have hB4 := (hB.trans (b2a.mono hB.size)).grown grow4 (hB.trans (b2a.mono hB.size)).size (fun _ e => own_base oV e)
        have ag2 := AgS.of_below ((Below.refl V2.heap.size V2).alloc (Nat.le_refl _) (.cells #[.int .i64 kd, .slice p2 ws.length q2] 41))
        have ag4 := AgS.grown oV (by decide) grow4
        have agr := AgS.of_below b2
        rw [← List.length_append, ← List.flatMap_append] at own4
        first | (refine ⟨⟨k + 1, M ++ [(kd, Value.slice p2 ws.length q2, ws)], by omega, by go_num, hnx.out _, ⟨_, rfl, own4⟩, fun p hp => (List.mem_append.1 hp).elim (fun h => (((hMo p h).agr agr).agr ag2).agr ag4) (fun h => by obtain rfl := List.mem_singleton.1 h; exact (hwS.agr ag2).agr ag4), hB4⟩, ?_⟩; simp [RowKit.intOf]; omega) | (go_roundw; case rel => first | exact ⟨k + 1, M ++ [(kd, Value.slice p2 ws.length q2, ws)], by omega, by go_num, hnx.out _, ⟨_, rfl, own4⟩, fun p hp => (List.mem_append.1 hp).elim (fun h => (((hMo p h).agr agr).agr ag2).agr ag4) (fun h => by obtain rfl := List.mem_singleton.1 h; exact (hwS.agr ag2).agr ag4), hB4⟩ | ((repeat apply Exists.intro); exact ⟨⟨k + 1, M ++ [(kd, Value.slice p2 ws.length q2, ws)], by omega, by go_num, hnx.out _, ⟨_, rfl, own4⟩, fun p hp => (List.mem_append.1 hp).elim (fun h => (((hMo p h).agr agr).agr ag2).agr ag4) (fun h => by obtain rfl := List.mem_singleton.1 h; exact (hwS.agr ag2).agr ag4), hB4⟩, rfl⟩); case measure => simp [RowKit.intOf]; omega)
      refine BigFrame.allReady_want rfl (by rfl) (fun K hK => ?_) AllReady.nil
      refine wp_append_sl _ _ 37 rfl wr.heap.size 9 i0 (.string ⟨#[]⟩) 1 16 Tryd.underlying37 hi hz0 hz1 hz2 rfl (by decide) _ _ _ rfl ownE encT _ ws rfl slE (n1e ws) (by unfold maxLen; omega) (by omega) bEs (fun v2 V2 own2 grow2 _ => hK _ _ ?_)
      rw [Nat.zero_add, List.nil_append] at own2
      obtain ⟨p2, q2, rfl, -, -⟩ := owns_shape own2
      have b2 := bE.grown grow2 bE.size (fun _ e => own_base ownE e)
      have r0v := (Kept.of_below b2 0).cell r0
      have oV := ((Kept.of_below b2 0).owns o0).alloc (.cells #[.int .i64 kd, .slice p2 ws.length q2] 41)
      have slA : Sl (V2.alloc (.cells #[.int .i64 kd, .slice p2 ws.length q2] 41)) 2 encPt (.slice (some ⟨V2.heap.size, 0, none⟩) 1 1) [(kd, Value.slice p2 ws.length q2, ws)] := sl_of_block (l := [(kd, Value.slice p2 ws.length q2, ws)]) (World.alloc_heap_new V2 _) rfl (fun _ _ => rfl) (Nat.le_refl 1) (by decide)
      have b2a := b2.alloc b2.size (.cells #[.int .i64 kd, .slice p2 ws.length q2] 41)
      have hwS := SlS.of_owns own2
      clear hK K
      refine wpAny_ready (rs := [5]) (by kernel_rfl) (by simp) ?_
      refine AllReady.cons rfl (fun K hK => ?_) AllReady.nil
      go_simp
      first | refine hK _ _ ?_ | refine ⟨trivial, hK _ _ ?_⟩ | refine ⟨fun _ _ => trivial, hK _ _ ?_⟩
      clear hK K
      refine wpAny_ready (rs := [13]) (by kernel_rfl) (by simp) ?_
      refine AllReady.cons rfl (fun K hK => ?_) AllReady.nil
      go_simp
      first | refine hK _ _ ?_ | refine ⟨trivial, hK _ _ ?_⟩ | refine ⟨fun _ _ => trivial, hK _ _ ?_⟩
      clear hK K
      refine wpAny_ready (rs := [14]) (by kernel_rfl) (by simp) ?_
      refine AllReady.cons rfl (fun K hK => ?_) AllReady.nil
      go_simp
      first | refine hK _ _ ?_ | refine ⟨trivial, hK _ _ ?_⟩ | refine ⟨fun _ _ => trivial, hK _ _ ?_⟩
      clear hK K
      refine wpAny_ready (rs := [15]) (by kernel_rfl) (by simp) ?_
      refine BigFrame.allReady_want rfl (by rfl) (fun K hK => ?_) AllReady.nil
      refine wp_append_sl _ _ 22 rfl w.heap.size 41 j0 (.agg #[.int .i64 0, .slice none 0 0]) 2 32 Tryd.underlying22 hj hy0 hy1 hy2 rfl (by decide) _ _ _ rfl oV encPt _ [(kd, Value.slice p2 ws.length q2, ws)] rfl slA (fun x hx => by obtain rfl := List.mem_singleton.1 hx; exact ⟨rfl, fun u hu => by rcases List.mem_cons.1 hu with rfl | hu; rfl; obtain rfl := List.mem_singleton.1 hu; rfl⟩) (by unfold maxLen; simp only [List.length_cons, List.length_nil]; omega) (by simp only [List.length_cons, List.length_nil]; omega) (hB.trans (b2a.mono hB.size)).size (fun v4 V4 own4 grow4 _ => hK _ _ ?_)
      clear hK K
      refine wpAny_take (i := 16) (oi := ⟨some 3, _, _, _, _, _⟩) (v := ?_) rfl (by kernel_rfl) (by kernel_rfl) (by kernel_rfl) (fun _ _ _ h => h) (Or.inl ⟨by rfl, ?_⟩) ?_
      rotate_left
      · intro w; go_simp <;> with_reducible rfl
      simp only [Act.put, List.setIfInBounds_toArray, List.set_cons_zero, List.set_cons_succ]
      refine wpAny_done (by kernel_rfl) ?_ _
      go_wp2_with (fail)
      have hB4 := (hB.trans (b2a.mono hB.size)).grown grow4 (hB.trans (b2a.mono hB.size)).size (fun _ e => own_base oV e)
      have ag2 := AgS.of_below ((Below.refl V2.heap.size V2).alloc (Nat.le_refl _) (.cells #[.int .i64 kd, .slice p2 ws.length q2] 41))
      have ag4 := AgS.grown oV (by decide) grow4
      have agr := AgS.of_below b2
      rw [← List.length_append, ← List.flatMap_append] at own4
      first | (refine ⟨⟨k + 1, M ++ [(kd, Value.slice p2 ws.length q2, ws)], by omega, by go_num, hnx.out _, ⟨_, rfl, own4⟩, fun p hp => (List.mem_append.1 hp).elim (fun h => (((hMo p h).agr agr).agr ag2).agr ag4) (fun h => by obtain rfl := List.mem_singleton.1 h; exact (hwS.agr ag2).agr ag4), hB4⟩, ?_⟩; simp [RowKit.intOf]; omega) | (go_roundw; case rel => first | exact ⟨k + 1, M ++ [(kd, Value.slice p2 ws.length q2, ws)], by omega, by go_num, hnx.out _, ⟨_, rfl, own4⟩, fun p hp => (List.mem_append.1 hp).elim (fun h => (((hMo p h).agr agr).agr ag2).agr ag4) (fun h => by obtain rfl := List.mem_singleton.1 h; exact (hwS.agr ag2).agr ag4), hB4⟩ | ((repeat apply Exists.intro); exact ⟨⟨k + 1, M ++ [(kd, Value.slice p2 ws.length q2, ws)], by omega, by go_num, hnx.out _, ⟨_, rfl, own4⟩, fun p hp => (List.mem_append.1 hp).elim (fun h => (((hMo p h).agr agr).agr ag2).agr ag4) (fun h => by obtain rfl := List.mem_singleton.1 h; exact (hwS.agr ag2).agr ag4), hB4⟩, rfl⟩); case measure => simp [RowKit.intOf]; omega)
    · obtain rfl : k = L.length := by omega
      rw [List.take_length] at hM
      have hM2 := hid hM
      clear hM
      go_wp2_with (fail)
      go_ret
      exact ⟨_, M, rfl, sl_of_owns (fun _ _ => rfl) o0, fun p hp => (hMo p hp).self, hM2.out, hB⟩
end Go.Proofs.YtgbfekimflnaiaaDoor
