/- The walk of the reference's Line (printed by gen_scy.py). -/
import Derived.Test.YtkmnmigpnbehaaaDoorScX
import Derived.Deep.QuietTactic
import Derived.Deep.DeepCutAuto
namespace Go.Proofs.YtkmnmigpnbehaaaDoor
open Go.RowKit Go.Shelf Go.Lib

theorem verbs_at {k : Nat} (h : k ≤ 8) : (verbsL.map fun x => Value.string ⟨x.toArray⟩).toArray[k]? = some (.string ⟨(nameOf k).toArray⟩) := by
  match k, h with
  | 0, _ | 1, _ | 2, _ | 3, _ | 4, _ | 5, _ | 6, _ | 7, _ | 8, _ => rfl
  | k + 9, h => omega
theorem owns_set {W : World} {base : Nat} {e t : TypeId} {size : Nat} {v : Value} {n b i : Nat} {xs : List Value} {cs : Array Value} {fr : Nat × Nat} (h : W.ownsRow base e size v n xs) (hb : W.heap[b]? = some (.cells cs t fr)) (ht : t ≠ e) (x : Value) : (W.setCell ⟨b, i, none⟩ x).ownsRow base e size v n xs := by
  have hne := own_ne h hb ht
  obtain ⟨h0, h1⟩ := h
  refine ⟨h0, ?_⟩
  rcases h1 with h1 | ⟨g, cap, cur, rfl, hg, hh, r⟩
  · exact .inl h1
  · exact .inr ⟨g, cap, cur, rfl, hg, (setCell_off (fun e => hne (by simp [Value.ownBlock, e]))).trans hh, r⟩
/-- the numbers so far -/
def arrN (ws : List L8) (i : Nat) : Array Value := ((List.range 7).map fun j => Value.int .i64 (if 1 ≤ j ∧ j < i then numD ws j else 0)).toArray
theorem arrN_set (ws : List L8) {i : Nat} (h1 : 1 ≤ i) (h7 : i < 7) : (arrN ws i).setIfInBounds i (.int .i64 (numD ws i)) = arrN ws (i + 1) := by
  match i, h1, h7 with
  | 1, _, _ | 2, _, _ | 3, _, _ | 4, _, _ | 5, _, _ | 6, _, _ => rfl
  | i + 7, _, h => omega
theorem arrN_at (ws : List L8) {i j : Nat} (hj1 : 1 ≤ j) (hj : j < 7) (hi : i = 7 ∨ ws.length ≤ i) : (arrN ws i)[j]? = some (.int .i64 (numD ws j)) := by
  have e : (arrN ws i)[j]? = some (.int .i64 (if 1 ≤ j ∧ j < i then numD ws j else 0)) := by
    unfold arrN
    rw [List.getElem?_toArray, List.getElem?_map, List.getElem?_range hj]; rfl
  rw [e]
  by_cases h : 1 ≤ j ∧ j < i
  · rw [if_pos h]
  · rw [if_neg h]
    have : numD ws j = 0 := by
      unfold numD
      rw [List.getElem?_eq_none (by omega)]
    rw [this]
/-- the answer's eleven cells -/
abbrev put11 (w : World) (b : Nat) (x : OpB) (g : Bool) : World := (put10 w b x).setCell ⟨b, 10, none⟩ (.bool g)
theorem put11_here {w : World} {b : Nat} {x y : OpB} {g g' : Bool} {t : TypeId} (h : w.heap[b]? = some (.cells (gotC y g) t (0, 0))) : (put11 w b x g').heap[b]? = some (.cells (gotC x g') t (0, 0)) := by
  have e : ∀ (w : World) (cs : Array Value) (i : Nat) (v : Value), w.heap[b]? = some (.cells cs t (0, 0)) → (w.setCell ⟨b, i, none⟩ v).heap[b]? = some (.cells (cs.setIfInBounds i v) t (0, 0)) := fun w cs i v h => setCell_blk h
  refine Eq.trans (e _ _ 10 _ (e _ _ 9 _ (e _ _ 8 _ (e _ _ 7 _ (e _ _ 6 _ (e _ _ 5 _ (e _ _ 4 _ (e _ _ 3 _ (e _ _ 2 _ (e _ _ 1 _ (e _ _ 0 _ h))))))))))) ?_
  simp only [gotC, List.setIfInBounds_toArray, List.set_cons_zero, List.set_cons_succ]
theorem put11_below {n : Nat} {w0 w : World} {b : Nat} {x : OpB} {g : Bool} (h : Below n w0 w) (hb : n ≤ b) : Below n w0 (put11 w b x g) := (put10_below h hb).setCell (p := ⟨b, 10, none⟩) hb _
theorem outGot {n₀ : Nat} {W : World} {a : Act} {R : Ending → World → Prop} {y : OpB} {g : Bool}
    (h2 : W.heap[n₀]? = some (.cells (gotC y g) 31 (0, 0))) (e2 : a.tmps.getD 2 undef = .pointer (some ⟨n₀, 0, none⟩)) (hd : a.defers = [])
    (hR : R (.returned (.agg (gotC y g))) W) : bodyPost Tryd.prog Tryd.f8 R .ret a W := by
  obtain ⟨d, hu, hr⟩ : ∃ d, Tryd.prog.underlying 31 = some d ∧ TypeDesc.isRow d = true := by
    have hk : (Tryd.prog.underlying 31).map TypeDesc.isRow = some true := by kernel_rfl
    obtain ⟨d, h1, h2⟩ := Option.map_eq_some_iff.1 hk
    exact ⟨d, h1, h2⟩
  have hi : (Tryd.prog.info? 31).map (·.size) = some 11 := by kernel_rfl
  exact bodyPost_ret (results_cell_row (P := Tryd.prog) (fn := Tryd.f8) rfl _ _ n₀ _ _ _ d e2 h2 hu (by cases d <;> first | rfl | cases hr) hi) hd hR

set_option maxRecDepth 100000 in
set_option maxHeartbeats 2000000 in
theorem rLine_any (s : ByteArray) (w : World) (hs : s.size ≤ 1000000) :
    Calls Tryd.prog 8 #[.string s] w fun e w' => ∃ y : OpB, e = .returned (.agg (gotC y (lineS s.data.toList).isSome)) ∧ op8 y = (lineS s.data.toList).getD (zeroOp 0) ∧ Below w.heap.size w w' := by
  obtain ⟨WS, hWS⟩ : ∃ l, pcsB 32 s = l := ⟨_, rfl⟩
  have hmap : WS.map (fun b => b.data.toList) = cutB 32 s.data.toList := by
    rw [← hWS]; unfold pcsB; rw [List.map_map]
    conv => rhs; rw [← List.map_id (cutB 32 s.data.toList)]
    exact List.map_congr_left fun x _ => toB_list x
  obtain ⟨b0, bs, hbs⟩ : ∃ b l, WS = b :: l := by
    cases e : WS with
    | nil => rw [e] at hmap; exact absurd hmap.symm (cutB_ne _ _)
    | cons b l => exact ⟨b, l, rfl⟩
  obtain ⟨ws, hws⟩ : ∃ l, cutB 32 s.data.toList = l := ⟨_, rfl⟩
  have hlw : lineS s.data.toList = lineW ws := by unfold lineS; rw [hws]
  have hwl : WS.length = ws.length := by rw [← hws, ← hmap, List.length_map]
  have hwn : ws.length ≤ s.size + 1 := by rw [← hws]; have := cutB_len 32 s.data.toList; rwa [size8] at this
  have hsz : ∀ b ∈ WS, b.size ≤ s.size := by
    intro b hb
    have h1 : b.data.toList ∈ cutB 32 s.data.toList := by rw [← hmap]; exact List.mem_map.2 ⟨b, hb, rfl⟩
    have h2 := lines_mem h1
    rwa [size8, size8] at h2
  have hw0 : ws = b0.data.toList :: bs.map (fun b => b.data.toList) := by rw [← hws, ← hmap, hbs]; rfl
  rw [hws] at hmap
  rw [hlw]
  replace hlw := hid hlw
  replace hws := hid hws
  replace hbs := hid hbs
  replace hw0 := hid hw0
  replace hmap := hid hmap
  replace hwl := hid hwl
  obtain ⟨n₀, hn₀⟩ : ∃ n, w.heap.size = n := ⟨_, rfl⟩
  have a1 := World.alloc_heap_new w (.cells (gotC zOp false) 31)
  have B1 : Below w.heap.size w (w.alloc (.cells (gotC zOp false) 31)) := (Below.refl _ w).alloc (Nat.le_refl _) _
  have hz1 : (w.alloc (.cells (gotC zOp false) 31)).heap.size = n₀ + 1 := by simp [hn₀]
  have cW := hid (rwords_any s (w.alloc (.cells (gotC zOp false) 31)) hs)
  rw [hWS, hz1] at cW
  rw [hn₀] at a1
  replace hWS := hid hWS
  unfold zOp gotC at cW
  dsimp only at cW
  clear hz1
  go_enter Tryd.func8, Tryd.ntmps8
  go_wp2_with (fail)
  refine cW.out.mono ?_
  rintro e w2 ⟨v, rfl, o2, b2⟩
  have a2 := (b2.block n₀ (by omega)).trans a1
  have B2 := B1.trans (b2.mono (by have := B1.size; omega))
  have hz2 := (Array.getElem?_eq_some_iff.1 a2).1
  obtain ⟨pv, cv, rfl, -, -⟩ := owns_shape o2
  obtain ⟨n4, hn4⟩ : ∃ n, w2.heap.size = n := ⟨_, rfl⟩
  have a4 := World.alloc_heap_new w2 (.cells (opC zOp) 25)
  rw [hn4] at a4
  have a2' := (Kept.alloc 0 w2 (.cells (opC zOp) 25)).same _ _ a2 (.inl rfl)
  have o2' := (Kept.alloc 0 w2 (.cells (opC zOp) 25)).owns o2
  have B2' := B2.alloc B2.size (.cells (opC zOp) 25)
  clear cW o2 b2 a1 B1
  go_wp2_with (fail)
  go_loopw [5] (fun iv wr => ∃ k kd : Nat, 1 ≤ k ∧ k ≤ 9 ∧ iv = .int .i64 k ∧ kd ≤ 8 ∧ ((kd = 0 ∧ ∀ j, 1 ≤ j → j < k → nameOf j ≠ b0.data.toList) ∨ (1 ≤ kd ∧ nameOf kd = b0.data.toList)) ∧ wr.heap[n₀]? = some (.cells (gotC zOp false) 31 (0, 0)) ∧ wr.heap[n4]? = some (.cells (opC { zOp with k := kd }) 25 (0, 0)) ∧ wr.ownsRow (n₀ + 1) 9 1 (.slice pv WS.length cv) WS.length (WS.flatMap encT) ∧ Below w.heap.size w wr) (fun iv _ => 9 - (RowKit.intOf iv).toNat)
  case atStart => exact ⟨1, 0, Nat.le_refl _, by omega, rfl, Nat.zero_le _, .inl ⟨rfl, fun j h1 h2 => by omega⟩, a2', a4, o2', B2'⟩
  case round =>
    obtain ⟨k, kd, hk1, hk9, rfl, hkd, hst, aG, aX, oW, hB⟩ := hrel
    clear a4 a2' o2' B2'
    by_cases hk8 : k ≤ 8
    · have hkI : (k : Int) ≤ 8 := by omega
      obtain ⟨bb, bo, cap, he2, -, -, hcs⟩ := (sl_of_owns (enc := encT) (fun _ _ => rfl) oW).open (by rw [hbs.out]; simp)
      simp only [Value.slice.injEq] at he2
      obtain ⟨rfl, -, rfl⟩ := he2
      have cw : wr.cell? ⟨bb, bo, none⟩ = some (.string b0) := by
        have := rangeAt_one (hcs 0 b0 (by rw [hbs.out]; rfl))
        rwa [Nat.zero_mul, Nat.add_zero] at this
      have hwp : (0 : Int) < (WS.length : Int) := by rw [hbs.out, List.length_cons]; omega
      have hwpN : 0 < WS.length := by rw [hbs.out, List.length_cons]; omega
      have hk9I : (k : Int) < 9 := by omega
      obtain ⟨nb, hnb⟩ : ∃ b : Bool, ((nameOf k : List UInt8) == b0.toList) = b := ⟨_, rfl⟩
      have hnt : (⟨(nameOf k).toArray⟩ : ByteArray).toList = nameOf k := by rw [Lib.toList_data]
      obtain ⟨V0, hV0⟩ : ∃ V : World, V = wr := ⟨_, rfl⟩
      rw [← hV0] at aG aX oW hB cw
      clear hcs
      replace hst := hid hst
      replace hnb := hid hnb
      replace hV0 := hid hV0
      go_upto_region 6 with (fail)
      rw [← hV0.out]
      go_cut [25] (fun c wx => c = .bool nb ∧ Below V0.heap.size V0 wx)
      case first =>
        refine wp_region_any (by kernel_rfl) ?_
        try (change wpAny _ _ _ _ _ _ _ (World.drew _))
        refine wpAny_take (i := 1) (oi := ⟨some 19, _, _, _, _, _⟩) (v := ?_) rfl (by kernel_rfl) (by kernel_rfl) (by kernel_rfl) (fun _ _ _ h => h) (Or.inl ⟨by rfl, ?_⟩) ?_
        rotate_left
        · intro w; go_simp <;> with_reducible rfl
        simp only [Act.put, List.setIfInBounds_toArray, List.set_cons_zero, List.set_cons_succ]
        refine wpAny_take (i := 4) (oi := ⟨some 22, _, _, _, _, _⟩) (v := ?_) rfl (by kernel_rfl) (by kernel_rfl) (by kernel_rfl) (fun _ _ _ h => h) (Or.inl ⟨by rfl, ?_⟩) ?_
        rotate_left
        · intro w; go_simp <;> with_reducible rfl
        simp only [Act.put, List.setIfInBounds_toArray, List.set_cons_zero, List.set_cons_succ]
        refine wpAny_take (i := 5) (oi := ⟨some 23, _, _, _, _, _⟩) (v := ?_) rfl (by kernel_rfl) (by kernel_rfl) (by kernel_rfl) (fun _ _ _ h => h) (Or.inl ⟨by rfl, ?_⟩) ?_
        rotate_left
        · intro w; go_simp <;> with_reducible rfl
        simp only [Act.put, List.setIfInBounds_toArray, List.set_cons_zero, List.set_cons_succ]
        refine wpAny_ready (rs := [0, 6]) (by kernel_rfl) (by simp) ?_
        refine AllReady.cons rfl (fun K hK => ?_) ?_
        · go_simp
          refine (verbs_any _).mono ?_
          rintro e Va ⟨rfl, hva, bva⟩
          have kva := Kept.of_below bva 0
          have gva : Va.cell? ⟨V0.heap.size, k, none⟩ = some (.string ⟨(nameOf k).toArray⟩) := cell_blk (show Va.heap[V0.heap.size]? = _ from hva) (verbs_at hk8)
          have cwa := kva.cell (show V0.drew.cell? _ = _ from cw)
          have BVa := ((Below.refl V0.heap.size V0).drewN 1).trans bva
          first | refine hK _ _ ?_ | refine ⟨trivial, hK _ _ ?_⟩ | refine ⟨fun _ _ => trivial, hK _ _ ?_⟩
          clear hK K
          refine wpAny_take (i := 2) (oi := ⟨some 20, _, _, _, _, _⟩) (v := ?_) rfl (by kernel_rfl) (by kernel_rfl) (by kernel_rfl) (fun _ _ _ h => h) (Or.inl ⟨by rfl, ?_⟩) ?_
          rotate_left
          · intro w; go_simp <;> with_reducible rfl
          simp only [Act.put, List.setIfInBounds_toArray, List.set_cons_zero, List.set_cons_succ]
          refine wpAny_ready (rs := [3, 6]) (by kernel_rfl) (by simp) ?_
          refine AllReady.cons rfl (fun K hK => ?_) ?_
          · go_simp
            first | refine hK _ _ ?_ | refine ⟨trivial, hK _ _ ?_⟩ | refine ⟨fun _ _ => trivial, hK _ _ ?_⟩
            clear hK K
            refine wpAny_ready (rs := [6]) (by kernel_rfl) (by simp) ?_
            refine AllReady.cons rfl (fun K hK => ?_) AllReady.nil
            go_simp
            first | refine hK _ _ ?_ | refine ⟨trivial, hK _ _ ?_⟩ | refine ⟨fun _ _ => trivial, hK _ _ ?_⟩
            clear hK K
            refine wpAny_take (i := 7) (oi := ⟨some 25, _, _, _, _, _⟩) (v := ?_) rfl (by kernel_rfl) (by kernel_rfl) (by kernel_rfl) (fun _ _ _ h => h) (Or.inl ⟨by rfl, ?_⟩) ?_
            rotate_left
            · intro w; go_simp <;> with_reducible rfl
            simp only [Act.put, List.setIfInBounds_toArray, List.set_cons_zero, List.set_cons_succ]
            refine wpAny_done (by kernel_rfl) ?_ _
            go_wp2_with (fail)
            go_meet
            case rel => exact ⟨by rw [hnb.out], BVa⟩
          refine AllReady.cons rfl (fun K hK => ?_) AllReady.nil
          go_simp
          first | refine hK _ _ ?_ | refine ⟨trivial, hK _ _ ?_⟩ | refine ⟨fun _ _ => trivial, hK _ _ ?_⟩
          clear hK K
          refine wpAny_ready (rs := [3]) (by kernel_rfl) (by simp) ?_
          refine AllReady.cons rfl (fun K hK => ?_) AllReady.nil
          go_simp
          first | refine hK _ _ ?_ | refine ⟨trivial, hK _ _ ?_⟩ | refine ⟨fun _ _ => trivial, hK _ _ ?_⟩
          clear hK K
          refine wpAny_take (i := 7) (oi := ⟨some 25, _, _, _, _, _⟩) (v := ?_) rfl (by kernel_rfl) (by kernel_rfl) (by kernel_rfl) (fun _ _ _ h => h) (Or.inl ⟨by rfl, ?_⟩) ?_
          rotate_left
          · intro w; go_simp <;> with_reducible rfl
          simp only [Act.put, List.setIfInBounds_toArray, List.set_cons_zero, List.set_cons_succ]
          refine wpAny_done (by kernel_rfl) ?_ _
          go_wp2_with (fail)
          go_meet
          case rel => exact ⟨by rw [hnb.out], BVa⟩
        refine AllReady.cons rfl (fun K hK => ?_) AllReady.nil
        go_simp
        first | refine hK _ _ ?_ | refine ⟨trivial, hK _ _ ?_⟩ | refine ⟨fun _ _ => trivial, hK _ _ ?_⟩
        clear hK K
        refine wpAny_ready (rs := [0]) (by kernel_rfl) (by simp) ?_
        refine AllReady.cons rfl (fun K hK => ?_) AllReady.nil
        go_simp
        refine (verbs_any _).mono ?_
        rintro e Va ⟨rfl, hva, bva⟩
        have kva := Kept.of_below bva 0
        have gva : Va.cell? ⟨V0.heap.size, k, none⟩ = some (.string ⟨(nameOf k).toArray⟩) := cell_blk (show Va.heap[V0.heap.size]? = _ from hva) (verbs_at hk8)
        have cwa := kva.cell (show V0.drew.cell? _ = _ from cw)
        have BVa := ((Below.refl V0.heap.size V0).drewN 1).trans bva
        first | refine hK _ _ ?_ | refine ⟨trivial, hK _ _ ?_⟩ | refine ⟨fun _ _ => trivial, hK _ _ ?_⟩
        clear hK K
        refine wpAny_take (i := 2) (oi := ⟨some 20, _, _, _, _, _⟩) (v := ?_) rfl (by kernel_rfl) (by kernel_rfl) (by kernel_rfl) (fun _ _ _ h => h) (Or.inl ⟨by rfl, ?_⟩) ?_
        rotate_left
        · intro w; go_simp <;> with_reducible rfl
        simp only [Act.put, List.setIfInBounds_toArray, List.set_cons_zero, List.set_cons_succ]
        refine wpAny_ready (rs := [3]) (by kernel_rfl) (by simp) ?_
        refine AllReady.cons rfl (fun K hK => ?_) AllReady.nil
        go_simp
        first | refine hK _ _ ?_ | refine ⟨trivial, hK _ _ ?_⟩ | refine ⟨fun _ _ => trivial, hK _ _ ?_⟩
        clear hK K
        refine wpAny_take (i := 7) (oi := ⟨some 25, _, _, _, _, _⟩) (v := ?_) rfl (by kernel_rfl) (by kernel_rfl) (by kernel_rfl) (fun _ _ _ h => h) (Or.inl ⟨by rfl, ?_⟩) ?_
        rotate_left
        · intro w; go_simp <;> with_reducible rfl
        simp only [Act.put, List.setIfInBounds_toArray, List.set_cons_zero, List.set_cons_succ]
        refine wpAny_done (by kernel_rfl) ?_ _
        go_wp2_with (fail)
        go_meet
        case rel => exact ⟨by rw [hnb.out], BVa⟩
      case rest =>
        obtain ⟨rfl, hBc⟩ := hcut
        have kc := Kept.of_below hBc 0
        have aG2 := kc.same _ _ aG (.inl rfl)
        have aX2 := kc.same _ _ aX (.inl rfl)
        have oW2 := kc.owns oW
        have hB2 := hB.trans (hBc.mono hB.size)
        have u0 : wc.cell? ⟨n4, 0, none⟩ = some (.int .i64 kd) := cell_blk (i := 0) aX2 rfl
        have fu := frozen_blk aX2 (i := 0)
        clear kc hBc aG aX oW hB cw
        cases nb with
        | true =>
          have hnk : nameOf k = b0.data.toList := by
            have := eq_of_beq hnb.out
            rw [this, Lib.toList_data]
          have aX3 := setCell_blk (i := 0) (x := .int .i64 (k : Int)) aX2
          have oW3 := owns_set (i := 0) oW2 aX2 (by decide) (.int .i64 (k : Int))
          have hB3 := hB2.setCell (p := ⟨n4, 0, none⟩) (show w.heap.size ≤ n4 by omega) (.int .i64 (k : Int))
          have aG3 := (setCell_off (i := 0) (x := .int .i64 (k : Int)) (show n₀ ≠ n4 by omega)).trans aG2
          replace hnk := hid hnk
          go_wp2_with (fail)
          refine ⟨⟨k + 1, k, by omega, by omega, by go_num, hk8, .inr ⟨hk1, hnk.out⟩, aG3, aX3, oW3, hB3⟩, by simp [RowKit.intOf]; omega⟩
        | false =>
          have hst2 : (kd = 0 ∧ ∀ j, 1 ≤ j → j < k + 1 → nameOf j ≠ b0.data.toList) ∨ (1 ≤ kd ∧ nameOf kd = b0.data.toList) := by
            rcases hst.out with ⟨h1, h2⟩ | h1
            · refine .inl ⟨h1, fun j hj1 hj2 => ?_⟩
              by_cases e : j = k
              · subst e
                intro h
                have h3 := hnb.out
                rw [h, Lib.toList_data] at h3
                simp at h3
              · exact h2 j hj1 (by omega)
            · exact .inr h1
          replace hst2 := hid hst2
          go_wp2_with (fail)
          refine ⟨⟨k + 1, kd, by omega, by omega, by go_num, hkd, hst2.out, aG2, aX2, oW2, hB2⟩, by simp [RowKit.intOf]; omega⟩
    · obtain rfl : k = 9 := by omega
      have fG := fun i => frozen_blk aG (i := i)
      have fX := fun i => frozen_blk aX (i := i)
      have g0 : wr.cell? ⟨n₀, 0, none⟩ = some (.int .i64 0) := cell_blk (i := 0) aG rfl
      have g1 : wr.cell? ⟨n₀, 1, none⟩ = some (.int .i64 0) := cell_blk (i := 1) aG rfl
      have g2 : wr.cell? ⟨n₀, 2, none⟩ = some (.int .i64 0) := cell_blk (i := 2) aG rfl
      have g3 : wr.cell? ⟨n₀, 3, none⟩ = some (.int .i64 0) := cell_blk (i := 3) aG rfl
      have g4 : wr.cell? ⟨n₀, 4, none⟩ = some (.string ⟨#[]⟩) := cell_blk (i := 4) aG rfl
      have g5 : wr.cell? ⟨n₀, 5, none⟩ = some (.int .i64 0) := cell_blk (i := 5) aG rfl
      have g6 : wr.cell? ⟨n₀, 6, none⟩ = some (.int .i64 0) := cell_blk (i := 6) aG rfl
      have g7 : wr.cell? ⟨n₀, 7, none⟩ = some (.int .i64 0) := cell_blk (i := 7) aG rfl
      have g8 : wr.cell? ⟨n₀, 8, none⟩ = some (.int .i64 0) := cell_blk (i := 8) aG rfl
      have g9 : wr.cell? ⟨n₀, 9, none⟩ = some (.int .i64 0) := cell_blk (i := 9) aG rfl
      have g10 : wr.cell? ⟨n₀, 10, none⟩ = some (.bool false) := cell_blk (i := 10) aG rfl
      have x0 : wr.cell? ⟨n4, 0, none⟩ = some (.int .i64 kd) := cell_blk (i := 0) aX rfl
      have x1 : wr.cell? ⟨n4, 1, none⟩ = some (.int .i64 0) := cell_blk (i := 1) aX rfl
      have x2 : wr.cell? ⟨n4, 2, none⟩ = some (.int .i64 0) := cell_blk (i := 2) aX rfl
      have x3 : wr.cell? ⟨n4, 3, none⟩ = some (.int .i64 0) := cell_blk (i := 3) aX rfl
      have x4 : wr.cell? ⟨n4, 4, none⟩ = some (.string ⟨#[]⟩) := cell_blk (i := 4) aX rfl
      have x5 : wr.cell? ⟨n4, 5, none⟩ = some (.int .i64 0) := cell_blk (i := 5) aX rfl
      have x6 : wr.cell? ⟨n4, 6, none⟩ = some (.int .i64 0) := cell_blk (i := 6) aX rfl
      have x7 : wr.cell? ⟨n4, 7, none⟩ = some (.int .i64 0) := cell_blk (i := 7) aX rfl
      have x8 : wr.cell? ⟨n4, 8, none⟩ = some (.int .i64 0) := cell_blk (i := 8) aX rfl
      have x9 : wr.cell? ⟨n4, 9, none⟩ = some (.int .i64 0) := cell_blk (i := 9) aX rfl
      by_cases hk0 : kd = 0
      · subst hk0
        have hno : lineW ws = none := by
          rw [hw0.out]
          rcases hst with ⟨-, h⟩ | ⟨h, -⟩
          · exact lineW_no fun j h1 h8 => h j h1 (by omega)
          · omega
        replace hno := hid hno
        replace hst := hid hst
        go_wp2_with (fail)
        exact outGot (n₀ := n₀) (y := zOp) (g := false) (put11_here (x := zOp) (g' := false) aG) rfl rfl ⟨zOp, by rw [hno.out]; rfl, by rw [hno.out]; rfl, (by first | exact put11_below (x := zOp) (g := false) hB (by omega) | exact put11_below (x := zOp) (g := false) (hn₀ ▸ hB) (Nat.le_refl n₀))⟩
      · have hk1' : 1 ≤ kd := by omega
        have hkn : nameOf kd = b0.data.toList := by
          rcases hst with ⟨h, -⟩ | ⟨-, h⟩
          · exact absurd h hk0
          · exact h
        obtain ⟨f, hf, hfk, hfn⟩ := name_form hk1' hkd
        have hcf := cnt_form hf hfk
        have hwsn : ws = nameOf kd :: bs.map (fun b => b.data.toList) := by rw [hw0.out, hkn]
        have hlenb : bs.length + 1 = WS.length := by rw [hbs.out]; rfl
        have hkb : ((kd : Int) == 0) = false := by rw [beq_eq_false_iff_ne]; omega
        have hkdI : (kd : Int) < 9 := by omega
        have hcn : (wr.alloc (.cells #[.int .i64 0, .int .i64 8, .int .i64 2, .int .i64 3, .int .i64 1, .int .i64 3, .int .i64 2, .int .i64 1, .int .i64 1] 3)).cell? ⟨wr.heap.size, kd, none⟩ = some (.int .i64 (cntOf kd)) := cell_blk (World.alloc_heap_new wr _) (by
          match kd, hkdI with
          | 0, _ | 1, _ | 2, _ | 3, _ | 4, _ | 5, _ | 6, _ | 7, _ | 8, _ => rfl
          | k + 9, h => omega)
        have kA := Kept.alloc 0 wr (.cells #[.int .i64 0, .int .i64 8, .int .i64 2, .int .i64 3, .int .i64 1, .int .i64 3, .int .i64 2, .int .i64 1, .int .i64 1] 3)
        have aGA := kA.same _ _ aG (.inl rfl)
        have aXA := kA.same _ _ aX (.inl rfl)
        have oWA := kA.owns oW
        have hBA := hB.alloc hB.size (.cells #[.int .i64 0, .int .i64 8, .int .i64 2, .int .i64 3, .int .i64 1, .int .i64 3, .int .i64 2, .int .i64 1, .int .i64 1] 3)
        have h4z := (Array.getElem?_eq_some_iff.1 aX).1
        have h04 : n₀ < n4 := by omega
        have xa0 : (wr.alloc (.cells #[.int .i64 0, .int .i64 8, .int .i64 2, .int .i64 3, .int .i64 1, .int .i64 3, .int .i64 2, .int .i64 1, .int .i64 1] 3)).cell? ⟨n4, 0, none⟩ = some (.int .i64 kd) := cell_blk (i := 0) aXA rfl
        replace hst := hid hst
        replace hkn := hid hkn
        replace hfn := hid hfn
        replace hfk := hid hfk
        replace hcf := hid hcf
        replace hwsn := hid hwsn
        replace hlenb := hid hlenb
        by_cases hlen : WS.length = cntOf kd
        · have hlb : ((WS.length : Int) != (cntOf kd : Int)) = false := by rw [hlen]; simp
          have hle8 : cntOf kd ≤ 8 := by
            have : ∀ k, k < 9 → cntOf k ≤ 8 := by decide
            exact this kd (by omega)
          replace hlen := hid hlen
          clear aG aX oW hB kA
          have hlI : (WS.length : Int) ≤ 8 := by have := hlen.out; omega
          go_wp2_with (fail)
          have a7 := World.alloc_heap_new (wr.alloc (.cells #[.int .i64 0, .int .i64 8, .int .i64 2, .int .i64 3, .int .i64 1, .int .i64 3, .int .i64 2, .int .i64 1, .int .i64 1] 3)) (.cells (arrN ws 1) 55)
          have kB := Kept.alloc 0 (wr.alloc (.cells #[.int .i64 0, .int .i64 8, .int .i64 2, .int .i64 3, .int .i64 1, .int .i64 3, .int .i64 2, .int .i64 1, .int .i64 1] 3)) (.cells (arrN ws 1) 55)
          replace aGA := kB.same _ _ aGA (.inl rfl)
          replace aXA := kB.same _ _ aXA (.inl rfl)
          replace oWA := kB.owns oWA
          replace hBA := hBA.alloc hBA.size (.cells (arrN ws 1) 55)
          obtain ⟨n6, hn6⟩ : ∃ n, wr.heap.size + 1 = n := ⟨_, rfl⟩
          rw [World.size_alloc, hn6] at a7
          have h46 : n4 < n6 := by omega
          clear kB hcn xa0 g0 g1 g2 g3 g4 g5 g6 g7 g8 g9 g10 x0 x1 x2 x3 x4 x5 x6 x7 x8 x9 fG fX
          rw [hn6]
          go_loopw [7] (fun iv wr => ∃ i : Nat, 1 ≤ i ∧ i ≤ 7 ∧ i ≤ WS.length ∧ iv = .int .i64 i ∧ (∀ j, 1 ≤ j → j < i → ∀ w, ws[j]? = some w → numS w ≠ none) ∧ wr.heap[n₀]? = some (.cells (gotC zOp false) 31 (0, 0)) ∧ wr.heap[n4]? = some (.cells (opC { zOp with k := kd }) 25 (0, 0)) ∧ wr.heap[n6]? = some (.cells (arrN ws i) 55 (0, 0)) ∧ wr.ownsRow (n₀ + 1) 9 1 (.slice pv WS.length cv) WS.length (WS.flatMap encT) ∧ Below w.heap.size w wr) (fun iv _ => 7 - (RowKit.intOf iv).toNat)
          case atStart =>
            exact ⟨1, Nat.le_refl _, by omega, by have := hlenb.out; omega, rfl, fun j h1 h2 => by omega, aGA, aXA, a7, oWA, hBA⟩
          case round =>
            obtain ⟨i, hi1, hi7, hil, rfl, hnum, aG, aX, a6, oW, hB⟩ := hrel
            clear aGA aXA a7 oWA hBA
            have fG := fun i => frozen_blk aG (i := i)
            have fX := fun i => frozen_blk aX (i := i)
            have f6 := fun i => frozen_blk a6 (i := i)
            obtain ⟨bb, bo, cap, he2, -, -, hcs⟩ := (sl_of_owns (enc := encT) (fun _ _ => rfl) oW).open (by rw [hbs.out]; simp)
            simp only [Value.slice.injEq] at he2
            obtain ⟨rfl, -, rfl⟩ := he2
            have hcl : ∀ (j : Nat) (h : j < WS.length), wr.cell? ⟨bb, bo + j, none⟩ = some (.string WS[j]) := by
              intro j h
              have := rangeAt_one (hcs j WS[j] (List.getElem?_eq_getElem h))
              rwa [Nat.mul_one] at this
            have hwj : ∀ (j : Nat) (h : j < WS.length), ws[j]? = some WS[j].data.toList := by
              intro j h
              rw [← hmap.out, List.getElem?_map, List.getElem?_eq_getElem h]; rfl
            by_cases hlt : i < WS.length ∧ i < 7
            · obtain ⟨hlt1, hlt2⟩ := hlt
              have hltI : (i : Int) < (WS.length : Int) := by omega
              have hltI2 : (i : Int) < 7 := by omega
              have ci := hcl i hlt1
              have hwi := hwj i hlt1
              have hszi := hsz WS[i] (List.getElem_mem hlt1)
              obtain ⟨Wi, hWi⟩ : ∃ b, WS[i] = b := ⟨_, rfl⟩
              rw [hWi] at ci hwi hszi
              have cN := hid (rnumber_any Wi wr (by omega))
              replace hcl := hid hcl
              replace hwj := hid hwj
              replace hnum := hid hnum
              clear hcs
              go_wp2_with (fail)
              refine cN.out.mono ?_
              rintro e w5 ⟨n, rfl, hn, b5⟩
              have k5 := Kept.of_below b5 0
              have hB5 := (hB.trans (b5.mono hB.size)).alloc (hB.trans (b5.mono hB.size)).size (.cells #[.int .i64 n, .bool (numS Wi.data.toList).isSome] 57)
              have k6 := k5.trans (Kept.alloc 0 w5 (.cells #[.int .i64 n, .bool (numS Wi.data.toList).isSome] 57))
              have aG5 := k6.same _ _ aG (.inl rfl)
              have aX5 := k6.same _ _ aX (.inl rfl)
              have a65 := k6.same _ _ a6 (.inl rfl)
              have oW5 := k6.owns oW
              clear k5 k6 cN aG aX a6 oW hB b5 fG fX f6 ci
              cases hnm : numS Wi.data.toList with
              | none =>
                have hno : lineW ws = none := by
                  rw [hwsn.out, ← hfn.out]
                  refine lineW_bad hf (i := i - 1) (w := Wi.data.toList) (by rw [List.length_map]; have := hlenb.out; have := hcf.out; have := hlen.out; omega) (by omega) ?_ hnm
                  have := hwi
                  rw [hwsn.out] at this
                  obtain ⟨i', rfl⟩ : ∃ i', i = i' + 1 := ⟨i - 1, by omega⟩
                  simpa using this
                rw [hnm] at aG5 aX5 a65 oW5 hB5
                have fG := fun i => frozen_blk aG5 (i := i)
                replace hno := hid hno
                replace hnm := hid hnm
                simp only [Option.isSome_none] at aG5 aX5 a65 oW5 hB5 fG ⊢
                clear hn
                have g0 : (w5.alloc (.cells #[.int .i64 n, .bool false] 57)).cell? ⟨n₀, 0, none⟩ = some (.int .i64 0) := cell_blk (i := 0) aG5 rfl
                have g1 : (w5.alloc (.cells #[.int .i64 n, .bool false] 57)).cell? ⟨n₀, 1, none⟩ = some (.int .i64 0) := cell_blk (i := 1) aG5 rfl
                have g2 : (w5.alloc (.cells #[.int .i64 n, .bool false] 57)).cell? ⟨n₀, 2, none⟩ = some (.int .i64 0) := cell_blk (i := 2) aG5 rfl
                have g3 : (w5.alloc (.cells #[.int .i64 n, .bool false] 57)).cell? ⟨n₀, 3, none⟩ = some (.int .i64 0) := cell_blk (i := 3) aG5 rfl
                have g4 : (w5.alloc (.cells #[.int .i64 n, .bool false] 57)).cell? ⟨n₀, 4, none⟩ = some (.string ⟨#[]⟩) := cell_blk (i := 4) aG5 rfl
                have g5 : (w5.alloc (.cells #[.int .i64 n, .bool false] 57)).cell? ⟨n₀, 5, none⟩ = some (.int .i64 0) := cell_blk (i := 5) aG5 rfl
                have g6 : (w5.alloc (.cells #[.int .i64 n, .bool false] 57)).cell? ⟨n₀, 6, none⟩ = some (.int .i64 0) := cell_blk (i := 6) aG5 rfl
                have g7 : (w5.alloc (.cells #[.int .i64 n, .bool false] 57)).cell? ⟨n₀, 7, none⟩ = some (.int .i64 0) := cell_blk (i := 7) aG5 rfl
                have g8 : (w5.alloc (.cells #[.int .i64 n, .bool false] 57)).cell? ⟨n₀, 8, none⟩ = some (.int .i64 0) := cell_blk (i := 8) aG5 rfl
                have g9 : (w5.alloc (.cells #[.int .i64 n, .bool false] 57)).cell? ⟨n₀, 9, none⟩ = some (.int .i64 0) := cell_blk (i := 9) aG5 rfl
                have g10 : (w5.alloc (.cells #[.int .i64 n, .bool false] 57)).cell? ⟨n₀, 10, none⟩ = some (.bool false) := cell_blk (i := 10) aG5 rfl
                go_wp2_with (fail)
                exact outGot (n₀ := n₀) (y := zOp) (g := false) (put11_here (x := zOp) (g' := false) aG5) rfl rfl ⟨zOp, by rw [hno.out]; rfl, by rw [hno.out]; rfl, (by first | exact put11_below (x := zOp) (g := false) hB5 (by omega) | exact put11_below (x := zOp) (g := false) (hn₀ ▸ hB5) (Nat.le_refl n₀))⟩
              | some m =>
                have hnn := hn m hnm
                have hnd : numD ws i = n := by rw [numD_some hwi hnm, hnn]
                have hnum2 : ∀ j, 1 ≤ j → j < i + 1 → ∀ w, ws[j]? = some w → numS w ≠ none := by
                  intro j hj1 hj2 w hw
                  by_cases e : j = i
                  · subst e
                    rw [hwi] at hw
                    rw [← Option.some.inj hw, hnm]
                    simp
                  · exact hnum.out j hj1 (by omega) w hw
                rw [hnm] at aG5 aX5 a65 oW5 hB5
                have f6 := fun i => frozen_blk a65 (i := i)
                have a6c := cell_blk (i := i) a65 (show (arrN ws i)[i]? = some (.int .i64 (if 1 ≤ i ∧ i < i then numD ws i else 0)) from by
                  unfold arrN
                  rw [List.getElem?_toArray, List.getElem?_map, List.getElem?_range hlt2]; rfl)
                have a6s := setCell_blk (i := i) (x := .int .i64 n) a65
                rw [← hnd, arrN_set ws hi1 hlt2, hnd] at a6s
                have oW6 := owns_set (i := i) oW5 a65 (by decide) (.int .i64 n)
                have hB6 := hB5.setCell (p := ⟨n6, i, none⟩) (show w.heap.size ≤ n6 by omega) (.int .i64 n)
                have aG6 := (setCell_off (i := i) (x := .int .i64 n) (show n₀ ≠ n6 by omega)).trans aG5
                have aX6 := (setCell_off (i := i) (x := .int .i64 n) (show n4 ≠ n6 by omega)).trans aX5
                replace hnum2 := hid hnum2
                replace hnm := hid hnm
                replace hnd := hid hnd
                replace hnn := hid hnn
                replace hn := hid hn
                simp only [Option.isSome_some] at a6s oW6 hB6 aG6 aX6 f6 a6c ⊢
                go_wp2_with (fail)
                exact ⟨⟨i + 1, by omega, by omega, by omega, by go_num, hnum2.out, aG6, aX6, a6s, oW6, hB6⟩, by simp [RowKit.intOf]; omega⟩
            · have hend : i = 7 ∨ ws.length ≤ i := by have := hwl.out; omega
              have v1 := cell_blk (i := 1) a6 (arrN_at ws (by omega) (by omega) hend)
              have v2 := cell_blk (i := 2) a6 (arrN_at ws (by omega) (by omega) hend)
              have v3 := cell_blk (i := 3) a6 (arrN_at ws (by omega) (by omega) hend)
              have v4 := cell_blk (i := 4) a6 (arrN_at ws (by omega) (by omega) hend)
              have v5 := cell_blk (i := 5) a6 (arrN_at ws (by omega) (by omega) hend)
              have v6 := cell_blk (i := 6) a6 (arrN_at ws (by omega) (by omega) hend)
              have hmade : lineW ws = madeO kd ws := by
                have h := made_line hk1' hkd (r := bs.map (fun b => b.data.toList)) (by rw [List.length_map]; have := hlenb.out; have := hlen.out; omega) (fun j h1 h7 w hw => by
                  rw [← hwsn.out] at hw
                  by_cases hj : j < i
                  · exact hnum j h1 hj w hw
                  · have := (List.getElem?_eq_some_iff.1 hw).1
                    omega)
                rwa [← hwsn.out] at h
              replace hmade := hid hmade
              replace hnum := hid hnum
              clear hcs f6
              go_upto_region 12 with (fail)
              go_cut [49] (fun c wx => c = .bool false ∧ wx = wr)
              case first =>
                clear v1 v2 v3 v4 v5 v6 fG fX aG aX a6 oW hcl hwj
                by_cases hq : i < WS.length
                · have hqI : (i : Int) < (WS.length : Int) := by omega
                  have hq7 : ¬ (i : Int) < 7 := by omega
                  go_wp2_with (fail)
                  go_meet
                  case rel => exact ⟨rfl, rfl⟩
                · have hqI : ¬ (i : Int) < (WS.length : Int) := by omega
                  go_wp2_with (fail)
                  go_meet
                  case rel => exact ⟨rfl, rfl⟩
              case rest =>
                obtain ⟨rfl, rfl⟩ := hcut
                have h8 : kd = 1 ∨ kd = 2 ∨ kd = 3 ∨ kd = 4 ∨ kd = 5 ∨ kd = 6 ∨ kd = 7 ∨ kd = 8 := by omega
                rcases h8 with rfl | rfl | rfl | rfl | rfl | rfl | rfl | rfl
                · have hlen8 : WS.length = 8 := hlen.out
                  have h7I : (7 : Int) < (WS.length : Int) := by omega
                  have c7 := hcl 7 (by omega)
                  have w7 := hwj 7 (by omega)
                  have s7 := hsz WS[7] (List.getElem_mem (by omega))
                  obtain ⟨W7, hW7⟩ : ∃ b, WS[7] = b := ⟨_, rfl⟩
                  rw [hW7] at c7 w7 s7
                  have hbn := own_ne oW aX (by decide)
                  have c7' : (wc.setCell ⟨n4, 1, none⟩ (.int .i64 (numD ws 1))).cell? ⟨bb, bo + 7, none⟩ = some (.string W7) := by
                    have hne : bb ≠ n4 := fun e => hbn (by simp [Value.ownBlock, e])
                    unfold World.cell? at c7 ⊢
                    rw [show ((wc.setCell ⟨n4, 1, none⟩ (.int .i64 (numD ws 1))).heap[(⟨bb, bo + 7, none⟩ : Addr).block]?) = wc.heap[(⟨bb, bo + 7, none⟩ : Addr).block]? from setCell_off hne]
                    exact c7
                  have aG1 := (setCell_off (i := 1) (x := .int .i64 (numD ws 1)) (show n₀ ≠ n4 by omega)).trans aG
                  have a61 := (setCell_off (i := 1) (x := .int .i64 (numD ws 1)) (show n6 ≠ n4 by omega)).trans a6
                  have aX1 := setCell_blk (i := 1) (x := .int .i64 (numD ws 1)) aX
                  have hB1 := hB.setCell (p := ⟨n4, 1, none⟩) (show w.heap.size ≤ n4 by omega) (.int .i64 (numD ws 1))
                  have cU := hid (unhex_any W7 (wc.setCell ⟨n4, 1, none⟩ (.int .i64 (numD ws 1))) (by omega))
                  have x0 : wc.cell? ⟨n4, 0, none⟩ = some (.int .i64 1) := cell_blk (i := 0) aX rfl
                  have x1 : wc.cell? ⟨n4, 1, none⟩ = some (.int .i64 0) := cell_blk (i := 1) aX rfl
                  have hend2 := hid hend
                  have hgd : ws.getD 7 [] = W7.data.toList := by rw [List.getD_eq_getElem?_getD, w7]; rfl
                  replace hlen8 := hid hlen8
                  replace hW7 := hid hW7
                  replace w7 := hid w7
                  replace hgd := hid hgd
                  clear hcl hwj hbn c7 fG hend
                  go_wp2_with (fail)
                  refine cU.out.mono ?_
                  rintro e w8 ⟨xb, rfl, hxb, b8⟩
                  have k8 := Kept.of_below b8 0
                  have aG8 := k8.same _ _ aG1 (.inl rfl)
                  have aX8 := k8.same _ _ aX1 (.inl rfl)
                  have a68 := k8.same _ _ a61 (.inl rfl)
                  have hB8 := hB1.trans (b8.mono hB1.size)
                  have fG8 := fun i => frozen_blk aG8 (i := i)
                  have fX8 := fun i => frozen_blk aX8 (i := i)
                  have g0 : w8.cell? ⟨n₀, 0, none⟩ = some (.int .i64 0) := cell_blk (i := 0) aG8 rfl
                  have g1 : w8.cell? ⟨n₀, 1, none⟩ = some (.int .i64 0) := cell_blk (i := 1) aG8 rfl
                  have g2 : w8.cell? ⟨n₀, 2, none⟩ = some (.int .i64 0) := cell_blk (i := 2) aG8 rfl
                  have g3 : w8.cell? ⟨n₀, 3, none⟩ = some (.int .i64 0) := cell_blk (i := 3) aG8 rfl
                  have g4 : w8.cell? ⟨n₀, 4, none⟩ = some (.string ⟨#[]⟩) := cell_blk (i := 4) aG8 rfl
                  have g5 : w8.cell? ⟨n₀, 5, none⟩ = some (.int .i64 0) := cell_blk (i := 5) aG8 rfl
                  have g6 : w8.cell? ⟨n₀, 6, none⟩ = some (.int .i64 0) := cell_blk (i := 6) aG8 rfl
                  have g7 : w8.cell? ⟨n₀, 7, none⟩ = some (.int .i64 0) := cell_blk (i := 7) aG8 rfl
                  have g8 : w8.cell? ⟨n₀, 8, none⟩ = some (.int .i64 0) := cell_blk (i := 8) aG8 rfl
                  have g9 : w8.cell? ⟨n₀, 9, none⟩ = some (.int .i64 0) := cell_blk (i := 9) aG8 rfl
                  have g10 : w8.cell? ⟨n₀, 10, none⟩ = some (.bool false) := cell_blk (i := 10) aG8 rfl
                  have x0 : w8.cell? ⟨n4, 0, none⟩ = some (.int .i64 1) := cell_blk (i := 0) aX8 rfl
                  have x1 : w8.cell? ⟨n4, 1, none⟩ = some (.int .i64 (numD ws 1)) := cell_blk (i := 1) aX8 rfl
                  have x2 : w8.cell? ⟨n4, 2, none⟩ = some (.int .i64 0) := cell_blk (i := 2) aX8 rfl
                  have x3 : w8.cell? ⟨n4, 3, none⟩ = some (.int .i64 0) := cell_blk (i := 3) aX8 rfl
                  have x4 : w8.cell? ⟨n4, 4, none⟩ = some (.string ⟨#[]⟩) := cell_blk (i := 4) aX8 rfl
                  have x5 : w8.cell? ⟨n4, 5, none⟩ = some (.int .i64 0) := cell_blk (i := 5) aX8 rfl
                  have x6 : w8.cell? ⟨n4, 6, none⟩ = some (.int .i64 0) := cell_blk (i := 6) aX8 rfl
                  have x7 : w8.cell? ⟨n4, 7, none⟩ = some (.int .i64 0) := cell_blk (i := 7) aX8 rfl
                  have x8 : w8.cell? ⟨n4, 8, none⟩ = some (.int .i64 0) := cell_blk (i := 8) aX8 rfl
                  have x9 : w8.cell? ⟨n4, 9, none⟩ = some (.int .i64 0) := cell_blk (i := 9) aX8 rfl
                  have q2 := cell_blk (i := 2) a68 (arrN_at ws (by omega) (by omega) hend2.out)
                  have q3 := cell_blk (i := 3) a68 (arrN_at ws (by omega) (by omega) hend2.out)
                  have q4 := cell_blk (i := 4) a68 (arrN_at ws (by omega) (by omega) hend2.out)
                  have q5 := cell_blk (i := 5) a68 (arrN_at ws (by omega) (by omega) hend2.out)
                  have q6 := cell_blk (i := 6) a68 (arrN_at ws (by omega) (by omega) hend2.out)
                  clear cU k8 b8 aG1 aX1 a61 hB1 c7' x0 x1 aG aX a6 oW hB v1 v2 v3 v4 v5 v6 fX
                  cases hts : textS W7.data.toList with
                  | none =>
                    have hno : lineW ws = none := by
                      rw [hmade.out]
                      show (textS (ws.getD 7 [])).map _ = none
                      rw [hgd.out, hts]; rfl
                    replace hno := hid hno
                    replace hts := hid hts
                    clear hxb
                    simp only [Option.isSome_none]
                    go_wp2_with (fail)
                    exact outGot (n₀ := n₀) (y := zOp) (g := false) (put11_here (x := zOp) (g' := false) aG8) rfl rfl ⟨zOp, by rw [hno.out]; rfl, by rw [hno.out]; rfl, (by first | exact put11_below (x := zOp) (g := false) hB8 (by omega) | exact put11_below (x := zOp) (g := false) (hn₀ ▸ hB8) (Nat.le_refl n₀))⟩
                  | some b =>
                    have hxb2 := hxb b hts
                    have hY : lineW ws = some (op8 ⟨1, numD ws 1, 0, 0, xb, numD ws 2, numD ws 3, numD ws 4, numD ws 5, numD ws 6⟩) := by
                      rw [hmade.out]
                      show (textS (ws.getD 7 [])).map _ = _
                      rw [hgd.out, hts]
                      simp [op8, hxb2]
                    replace hY := hid hY
                    replace hts := hid hts
                    replace hxb2 := hid hxb2
                    clear hxb
                    simp only [Option.isSome_some]
                    generalize numD ws 1 = d1 at *
                    generalize numD ws 2 = d2 at *
                    generalize numD ws 3 = d3 at *
                    generalize numD ws 4 = d4 at *
                    generalize numD ws 5 = d5 at *
                    generalize numD ws 6 = d6 at *
                    have h04' : n₀ ≠ n4 := by omega
                    have h4w : w.heap.size ≤ n4 := by omega
                    have LX : ((((((w8.setCell ⟨n4, 5, none⟩ (.int .i64 d2)).setCell ⟨n4, 6, none⟩ (.int .i64 d3)).setCell ⟨n4, 7, none⟩ (.int .i64 d4)).setCell ⟨n4, 8, none⟩ (.int .i64 d5)).setCell ⟨n4, 9, none⟩ (.int .i64 d6)).setCell ⟨n4, 4, none⟩ (.string xb)).heap[n4]? = some (.cells (opC ⟨1, d1, 0, 0, xb, d2, d3, d4, d5, d6⟩) 25 (0, 0)) := setCell_blk (i := 4) (x := .string xb) (setCell_blk (i := 9) (x := .int .i64 d6) (setCell_blk (i := 8) (x := .int .i64 d5) (setCell_blk (i := 7) (x := .int .i64 d4) (setCell_blk (i := 6) (x := .int .i64 d3) (setCell_blk (i := 5) (x := .int .i64 d2) (aX8))))))
                    have LB : Below w.heap.size w ((((((w8.setCell ⟨n4, 5, none⟩ (.int .i64 d2)).setCell ⟨n4, 6, none⟩ (.int .i64 d3)).setCell ⟨n4, 7, none⟩ (.int .i64 d4)).setCell ⟨n4, 8, none⟩ (.int .i64 d5)).setCell ⟨n4, 9, none⟩ (.int .i64 d6)).setCell ⟨n4, 4, none⟩ (.string xb)) := ((((((hB8.setCell (p := ⟨n4, 5, none⟩) h4w _).setCell (p := ⟨n4, 6, none⟩) h4w _).setCell (p := ⟨n4, 7, none⟩) h4w _).setCell (p := ⟨n4, 8, none⟩) h4w _).setCell (p := ⟨n4, 9, none⟩) h4w _).setCell (p := ⟨n4, 4, none⟩) h4w _)
                    have LG : ((((((w8.setCell ⟨n4, 5, none⟩ (.int .i64 d2)).setCell ⟨n4, 6, none⟩ (.int .i64 d3)).setCell ⟨n4, 7, none⟩ (.int .i64 d4)).setCell ⟨n4, 8, none⟩ (.int .i64 d5)).setCell ⟨n4, 9, none⟩ (.int .i64 d6)).setCell ⟨n4, 4, none⟩ (.string xb)).heap[n₀]? = some (.cells (gotC zOp false) 31 (0, 0)) := (setCell_off h04').trans ((setCell_off h04').trans ((setCell_off h04').trans ((setCell_off h04').trans ((setCell_off h04').trans ((setCell_off h04').trans (aG8))))))
                    go_upto_region 30 with (fail)
                    obtain ⟨WF, hWF⟩ : ∃ V, ((((((w8.setCell ⟨n4, 5, none⟩ (.int .i64 d2)).setCell ⟨n4, 6, none⟩ (.int .i64 d3)).setCell ⟨n4, 7, none⟩ (.int .i64 d4)).setCell ⟨n4, 8, none⟩ (.int .i64 d5)).setCell ⟨n4, 9, none⟩ (.int .i64 d6)).setCell ⟨n4, 4, none⟩ (.string xb)) = V := ⟨_, rfl⟩
                    rw [hWF] at LX LB LG ⊢
                    replace hWF := hid hWF
                    clear x0 x1 x2 x3 x4 x5 x6 x7 x8 x9 g0 g1 g2 g3 g4 g5 g6 g7 g8 g9 g10 fG8 fX8 aG8 aX8 a68 hB8 q2 q3 q4 q5 q6
                    have fL := fun i => frozen_blk LG (i := i)
                    have p0 : WF.cell? ⟨n4, 0, none⟩ = some (.int .i64 1) := cell_blk (i := 0) LX rfl
                    have p1 : WF.cell? ⟨n4, 1, none⟩ = some (.int .i64 d1) := cell_blk (i := 1) LX rfl
                    have p2 : WF.cell? ⟨n4, 2, none⟩ = some (.int .i64 0) := cell_blk (i := 2) LX rfl
                    have p3 : WF.cell? ⟨n4, 3, none⟩ = some (.int .i64 0) := cell_blk (i := 3) LX rfl
                    have p4 : WF.cell? ⟨n4, 4, none⟩ = some (.string xb) := cell_blk (i := 4) LX rfl
                    have p5 : WF.cell? ⟨n4, 5, none⟩ = some (.int .i64 d2) := cell_blk (i := 5) LX rfl
                    have p6 : WF.cell? ⟨n4, 6, none⟩ = some (.int .i64 d3) := cell_blk (i := 6) LX rfl
                    have p7 : WF.cell? ⟨n4, 7, none⟩ = some (.int .i64 d4) := cell_blk (i := 7) LX rfl
                    have p8 : WF.cell? ⟨n4, 8, none⟩ = some (.int .i64 d5) := cell_blk (i := 8) LX rfl
                    have p9 : WF.cell? ⟨n4, 9, none⟩ = some (.int .i64 d6) := cell_blk (i := 9) LX rfl
                    have g0 : WF.cell? ⟨n₀, 0, none⟩ = some (.int .i64 0) := cell_blk (i := 0) LG rfl
                    have g1 : WF.cell? ⟨n₀, 1, none⟩ = some (.int .i64 0) := cell_blk (i := 1) LG rfl
                    have g2 : WF.cell? ⟨n₀, 2, none⟩ = some (.int .i64 0) := cell_blk (i := 2) LG rfl
                    have g3 : WF.cell? ⟨n₀, 3, none⟩ = some (.int .i64 0) := cell_blk (i := 3) LG rfl
                    have g4 : WF.cell? ⟨n₀, 4, none⟩ = some (.string ⟨#[]⟩) := cell_blk (i := 4) LG rfl
                    have g5 : WF.cell? ⟨n₀, 5, none⟩ = some (.int .i64 0) := cell_blk (i := 5) LG rfl
                    have g6 : WF.cell? ⟨n₀, 6, none⟩ = some (.int .i64 0) := cell_blk (i := 6) LG rfl
                    have g7 : WF.cell? ⟨n₀, 7, none⟩ = some (.int .i64 0) := cell_blk (i := 7) LG rfl
                    have g8 : WF.cell? ⟨n₀, 8, none⟩ = some (.int .i64 0) := cell_blk (i := 8) LG rfl
                    have g9 : WF.cell? ⟨n₀, 9, none⟩ = some (.int .i64 0) := cell_blk (i := 9) LG rfl
                    have g10 : WF.cell? ⟨n₀, 10, none⟩ = some (.bool false) := cell_blk (i := 10) LG rfl
                    go_wp2_with (fail)
                    exact outGot (n₀ := n₀) (y := ⟨1, d1, 0, 0, xb, d2, d3, d4, d5, d6⟩) (g := true) (put11_here (x := ⟨1, d1, 0, 0, xb, d2, d3, d4, d5, d6⟩) (g' := true) LG) rfl rfl ⟨⟨1, d1, 0, 0, xb, d2, d3, d4, d5, d6⟩, by rw [hY.out]; rfl, by rw [hY.out]; rfl, (by first | exact put11_below (x := ⟨1, d1, 0, 0, xb, d2, d3, d4, d5, d6⟩) (g := true) LB (by omega) | exact put11_below (x := ⟨1, d1, 0, 0, xb, d2, d3, d4, d5, d6⟩) (g := true) (hn₀ ▸ LB) (Nat.le_refl n₀))⟩
                · have hY : lineW ws = some (op8 ⟨2, numD ws 1, 0, 0, ⟨#[]⟩, 0, 0, 0, 0, 0⟩) := by rw [hmade.out]; simp [madeO, op8]
                  replace hY := hid hY
                  have g0 : wc.cell? ⟨n₀, 0, none⟩ = some (.int .i64 0) := cell_blk (i := 0) aG rfl
                  have g1 : wc.cell? ⟨n₀, 1, none⟩ = some (.int .i64 0) := cell_blk (i := 1) aG rfl
                  have g2 : wc.cell? ⟨n₀, 2, none⟩ = some (.int .i64 0) := cell_blk (i := 2) aG rfl
                  have g3 : wc.cell? ⟨n₀, 3, none⟩ = some (.int .i64 0) := cell_blk (i := 3) aG rfl
                  have g4 : wc.cell? ⟨n₀, 4, none⟩ = some (.string ⟨#[]⟩) := cell_blk (i := 4) aG rfl
                  have g5 : wc.cell? ⟨n₀, 5, none⟩ = some (.int .i64 0) := cell_blk (i := 5) aG rfl
                  have g6 : wc.cell? ⟨n₀, 6, none⟩ = some (.int .i64 0) := cell_blk (i := 6) aG rfl
                  have g7 : wc.cell? ⟨n₀, 7, none⟩ = some (.int .i64 0) := cell_blk (i := 7) aG rfl
                  have g8 : wc.cell? ⟨n₀, 8, none⟩ = some (.int .i64 0) := cell_blk (i := 8) aG rfl
                  have g9 : wc.cell? ⟨n₀, 9, none⟩ = some (.int .i64 0) := cell_blk (i := 9) aG rfl
                  have g10 : wc.cell? ⟨n₀, 10, none⟩ = some (.bool false) := cell_blk (i := 10) aG rfl
                  have x0 : wc.cell? ⟨n4, 0, none⟩ = some (.int .i64 2) := cell_blk (i := 0) aX rfl
                  have x1 : wc.cell? ⟨n4, 1, none⟩ = some (.int .i64 0) := cell_blk (i := 1) aX rfl
                  have x2 : wc.cell? ⟨n4, 2, none⟩ = some (.int .i64 0) := cell_blk (i := 2) aX rfl
                  have x3 : wc.cell? ⟨n4, 3, none⟩ = some (.int .i64 0) := cell_blk (i := 3) aX rfl
                  have x4 : wc.cell? ⟨n4, 4, none⟩ = some (.string ⟨#[]⟩) := cell_blk (i := 4) aX rfl
                  have x5 : wc.cell? ⟨n4, 5, none⟩ = some (.int .i64 0) := cell_blk (i := 5) aX rfl
                  have x6 : wc.cell? ⟨n4, 6, none⟩ = some (.int .i64 0) := cell_blk (i := 6) aX rfl
                  have x7 : wc.cell? ⟨n4, 7, none⟩ = some (.int .i64 0) := cell_blk (i := 7) aX rfl
                  have x8 : wc.cell? ⟨n4, 8, none⟩ = some (.int .i64 0) := cell_blk (i := 8) aX rfl
                  have x9 : wc.cell? ⟨n4, 9, none⟩ = some (.int .i64 0) := cell_blk (i := 9) aX rfl
                  go_wp2_with (fail)
                  exact outGot (n₀ := n₀) (y := ⟨2, numD ws 1, 0, 0, ⟨#[]⟩, 0, 0, 0, 0, 0⟩) (g := true) (put11_here (x := ⟨2, numD ws 1, 0, 0, ⟨#[]⟩, 0, 0, 0, 0, 0⟩) (g' := true) ((setCell_off (by omega)).trans aG)) rfl rfl ⟨⟨2, numD ws 1, 0, 0, ⟨#[]⟩, 0, 0, 0, 0, 0⟩, by rw [hY.out]; rfl, by rw [hY.out]; rfl, (by first | exact put11_below (x := ⟨2, numD ws 1, 0, 0, ⟨#[]⟩, 0, 0, 0, 0, 0⟩) (g := true) (hB.setCell (p := ⟨n4, 1, none⟩) (show w.heap.size ≤ n4 by omega) _) (by omega) | exact put11_below (x := ⟨2, numD ws 1, 0, 0, ⟨#[]⟩, 0, 0, 0, 0, 0⟩) (g := true) (hn₀ ▸ (hB.setCell (p := ⟨n4, 1, none⟩) (show w.heap.size ≤ n4 by omega) _)) (Nat.le_refl n₀))⟩
                · have hY : lineW ws = some (op8 ⟨3, numD ws 1, 0, numD ws 2, ⟨#[]⟩, 0, 0, 0, 0, 0⟩) := by rw [hmade.out]; simp [madeO, op8]
                  replace hY := hid hY
                  have g0 : wc.cell? ⟨n₀, 0, none⟩ = some (.int .i64 0) := cell_blk (i := 0) aG rfl
                  have g1 : wc.cell? ⟨n₀, 1, none⟩ = some (.int .i64 0) := cell_blk (i := 1) aG rfl
                  have g2 : wc.cell? ⟨n₀, 2, none⟩ = some (.int .i64 0) := cell_blk (i := 2) aG rfl
                  have g3 : wc.cell? ⟨n₀, 3, none⟩ = some (.int .i64 0) := cell_blk (i := 3) aG rfl
                  have g4 : wc.cell? ⟨n₀, 4, none⟩ = some (.string ⟨#[]⟩) := cell_blk (i := 4) aG rfl
                  have g5 : wc.cell? ⟨n₀, 5, none⟩ = some (.int .i64 0) := cell_blk (i := 5) aG rfl
                  have g6 : wc.cell? ⟨n₀, 6, none⟩ = some (.int .i64 0) := cell_blk (i := 6) aG rfl
                  have g7 : wc.cell? ⟨n₀, 7, none⟩ = some (.int .i64 0) := cell_blk (i := 7) aG rfl
                  have g8 : wc.cell? ⟨n₀, 8, none⟩ = some (.int .i64 0) := cell_blk (i := 8) aG rfl
                  have g9 : wc.cell? ⟨n₀, 9, none⟩ = some (.int .i64 0) := cell_blk (i := 9) aG rfl
                  have g10 : wc.cell? ⟨n₀, 10, none⟩ = some (.bool false) := cell_blk (i := 10) aG rfl
                  have x0 : wc.cell? ⟨n4, 0, none⟩ = some (.int .i64 3) := cell_blk (i := 0) aX rfl
                  have x1 : wc.cell? ⟨n4, 1, none⟩ = some (.int .i64 0) := cell_blk (i := 1) aX rfl
                  have x2 : wc.cell? ⟨n4, 2, none⟩ = some (.int .i64 0) := cell_blk (i := 2) aX rfl
                  have x3 : wc.cell? ⟨n4, 3, none⟩ = some (.int .i64 0) := cell_blk (i := 3) aX rfl
                  have x4 : wc.cell? ⟨n4, 4, none⟩ = some (.string ⟨#[]⟩) := cell_blk (i := 4) aX rfl
                  have x5 : wc.cell? ⟨n4, 5, none⟩ = some (.int .i64 0) := cell_blk (i := 5) aX rfl
                  have x6 : wc.cell? ⟨n4, 6, none⟩ = some (.int .i64 0) := cell_blk (i := 6) aX rfl
                  have x7 : wc.cell? ⟨n4, 7, none⟩ = some (.int .i64 0) := cell_blk (i := 7) aX rfl
                  have x8 : wc.cell? ⟨n4, 8, none⟩ = some (.int .i64 0) := cell_blk (i := 8) aX rfl
                  have x9 : wc.cell? ⟨n4, 9, none⟩ = some (.int .i64 0) := cell_blk (i := 9) aX rfl
                  go_wp2_with (fail)
                  exact outGot (n₀ := n₀) (y := ⟨3, numD ws 1, 0, numD ws 2, ⟨#[]⟩, 0, 0, 0, 0, 0⟩) (g := true) (put11_here (x := ⟨3, numD ws 1, 0, numD ws 2, ⟨#[]⟩, 0, 0, 0, 0, 0⟩) (g' := true) ((setCell_off (by omega)).trans ((setCell_off (by omega)).trans aG))) rfl rfl ⟨⟨3, numD ws 1, 0, numD ws 2, ⟨#[]⟩, 0, 0, 0, 0, 0⟩, by rw [hY.out]; rfl, by rw [hY.out]; rfl, (by first | exact put11_below (x := ⟨3, numD ws 1, 0, numD ws 2, ⟨#[]⟩, 0, 0, 0, 0, 0⟩) (g := true) ((hB.setCell (p := ⟨n4, 1, none⟩) (show w.heap.size ≤ n4 by omega) _).setCell (p := ⟨n4, 3, none⟩) (show w.heap.size ≤ n4 by omega) _) (by omega) | exact put11_below (x := ⟨3, numD ws 1, 0, numD ws 2, ⟨#[]⟩, 0, 0, 0, 0, 0⟩) (g := true) (hn₀ ▸ ((hB.setCell (p := ⟨n4, 1, none⟩) (show w.heap.size ≤ n4 by omega) _).setCell (p := ⟨n4, 3, none⟩) (show w.heap.size ≤ n4 by omega) _)) (Nat.le_refl n₀))⟩
                · have hY : lineW ws = some (op8 ⟨4, numD ws 1, 0, 0, ⟨#[]⟩, 0, 0, 0, 0, 0⟩) := by rw [hmade.out]; simp [madeO, op8]
                  replace hY := hid hY
                  have g0 : wc.cell? ⟨n₀, 0, none⟩ = some (.int .i64 0) := cell_blk (i := 0) aG rfl
                  have g1 : wc.cell? ⟨n₀, 1, none⟩ = some (.int .i64 0) := cell_blk (i := 1) aG rfl
                  have g2 : wc.cell? ⟨n₀, 2, none⟩ = some (.int .i64 0) := cell_blk (i := 2) aG rfl
                  have g3 : wc.cell? ⟨n₀, 3, none⟩ = some (.int .i64 0) := cell_blk (i := 3) aG rfl
                  have g4 : wc.cell? ⟨n₀, 4, none⟩ = some (.string ⟨#[]⟩) := cell_blk (i := 4) aG rfl
                  have g5 : wc.cell? ⟨n₀, 5, none⟩ = some (.int .i64 0) := cell_blk (i := 5) aG rfl
                  have g6 : wc.cell? ⟨n₀, 6, none⟩ = some (.int .i64 0) := cell_blk (i := 6) aG rfl
                  have g7 : wc.cell? ⟨n₀, 7, none⟩ = some (.int .i64 0) := cell_blk (i := 7) aG rfl
                  have g8 : wc.cell? ⟨n₀, 8, none⟩ = some (.int .i64 0) := cell_blk (i := 8) aG rfl
                  have g9 : wc.cell? ⟨n₀, 9, none⟩ = some (.int .i64 0) := cell_blk (i := 9) aG rfl
                  have g10 : wc.cell? ⟨n₀, 10, none⟩ = some (.bool false) := cell_blk (i := 10) aG rfl
                  have x0 : wc.cell? ⟨n4, 0, none⟩ = some (.int .i64 4) := cell_blk (i := 0) aX rfl
                  have x1 : wc.cell? ⟨n4, 1, none⟩ = some (.int .i64 0) := cell_blk (i := 1) aX rfl
                  have x2 : wc.cell? ⟨n4, 2, none⟩ = some (.int .i64 0) := cell_blk (i := 2) aX rfl
                  have x3 : wc.cell? ⟨n4, 3, none⟩ = some (.int .i64 0) := cell_blk (i := 3) aX rfl
                  have x4 : wc.cell? ⟨n4, 4, none⟩ = some (.string ⟨#[]⟩) := cell_blk (i := 4) aX rfl
                  have x5 : wc.cell? ⟨n4, 5, none⟩ = some (.int .i64 0) := cell_blk (i := 5) aX rfl
                  have x6 : wc.cell? ⟨n4, 6, none⟩ = some (.int .i64 0) := cell_blk (i := 6) aX rfl
                  have x7 : wc.cell? ⟨n4, 7, none⟩ = some (.int .i64 0) := cell_blk (i := 7) aX rfl
                  have x8 : wc.cell? ⟨n4, 8, none⟩ = some (.int .i64 0) := cell_blk (i := 8) aX rfl
                  have x9 : wc.cell? ⟨n4, 9, none⟩ = some (.int .i64 0) := cell_blk (i := 9) aX rfl
                  go_wp2_with (fail)
                  exact outGot (n₀ := n₀) (y := ⟨4, numD ws 1, 0, 0, ⟨#[]⟩, 0, 0, 0, 0, 0⟩) (g := true) (put11_here (x := ⟨4, numD ws 1, 0, 0, ⟨#[]⟩, 0, 0, 0, 0, 0⟩) (g' := true) ((setCell_off (by omega)).trans aG)) rfl rfl ⟨⟨4, numD ws 1, 0, 0, ⟨#[]⟩, 0, 0, 0, 0, 0⟩, by rw [hY.out]; rfl, by rw [hY.out]; rfl, (by first | exact put11_below (x := ⟨4, numD ws 1, 0, 0, ⟨#[]⟩, 0, 0, 0, 0, 0⟩) (g := true) (hB.setCell (p := ⟨n4, 1, none⟩) (show w.heap.size ≤ n4 by omega) _) (by omega) | exact put11_below (x := ⟨4, numD ws 1, 0, 0, ⟨#[]⟩, 0, 0, 0, 0, 0⟩) (g := true) (hn₀ ▸ (hB.setCell (p := ⟨n4, 1, none⟩) (show w.heap.size ≤ n4 by omega) _)) (Nat.le_refl n₀))⟩
                · have hY : lineW ws = some (op8 ⟨5, numD ws 1, numD ws 2, 0, ⟨#[]⟩, 0, 0, 0, 0, 0⟩) := by rw [hmade.out]; simp [madeO, op8]
                  replace hY := hid hY
                  have g0 : wc.cell? ⟨n₀, 0, none⟩ = some (.int .i64 0) := cell_blk (i := 0) aG rfl
                  have g1 : wc.cell? ⟨n₀, 1, none⟩ = some (.int .i64 0) := cell_blk (i := 1) aG rfl
                  have g2 : wc.cell? ⟨n₀, 2, none⟩ = some (.int .i64 0) := cell_blk (i := 2) aG rfl
                  have g3 : wc.cell? ⟨n₀, 3, none⟩ = some (.int .i64 0) := cell_blk (i := 3) aG rfl
                  have g4 : wc.cell? ⟨n₀, 4, none⟩ = some (.string ⟨#[]⟩) := cell_blk (i := 4) aG rfl
                  have g5 : wc.cell? ⟨n₀, 5, none⟩ = some (.int .i64 0) := cell_blk (i := 5) aG rfl
                  have g6 : wc.cell? ⟨n₀, 6, none⟩ = some (.int .i64 0) := cell_blk (i := 6) aG rfl
                  have g7 : wc.cell? ⟨n₀, 7, none⟩ = some (.int .i64 0) := cell_blk (i := 7) aG rfl
                  have g8 : wc.cell? ⟨n₀, 8, none⟩ = some (.int .i64 0) := cell_blk (i := 8) aG rfl
                  have g9 : wc.cell? ⟨n₀, 9, none⟩ = some (.int .i64 0) := cell_blk (i := 9) aG rfl
                  have g10 : wc.cell? ⟨n₀, 10, none⟩ = some (.bool false) := cell_blk (i := 10) aG rfl
                  have x0 : wc.cell? ⟨n4, 0, none⟩ = some (.int .i64 5) := cell_blk (i := 0) aX rfl
                  have x1 : wc.cell? ⟨n4, 1, none⟩ = some (.int .i64 0) := cell_blk (i := 1) aX rfl
                  have x2 : wc.cell? ⟨n4, 2, none⟩ = some (.int .i64 0) := cell_blk (i := 2) aX rfl
                  have x3 : wc.cell? ⟨n4, 3, none⟩ = some (.int .i64 0) := cell_blk (i := 3) aX rfl
                  have x4 : wc.cell? ⟨n4, 4, none⟩ = some (.string ⟨#[]⟩) := cell_blk (i := 4) aX rfl
                  have x5 : wc.cell? ⟨n4, 5, none⟩ = some (.int .i64 0) := cell_blk (i := 5) aX rfl
                  have x6 : wc.cell? ⟨n4, 6, none⟩ = some (.int .i64 0) := cell_blk (i := 6) aX rfl
                  have x7 : wc.cell? ⟨n4, 7, none⟩ = some (.int .i64 0) := cell_blk (i := 7) aX rfl
                  have x8 : wc.cell? ⟨n4, 8, none⟩ = some (.int .i64 0) := cell_blk (i := 8) aX rfl
                  have x9 : wc.cell? ⟨n4, 9, none⟩ = some (.int .i64 0) := cell_blk (i := 9) aX rfl
                  go_wp2_with (fail)
                  exact outGot (n₀ := n₀) (y := ⟨5, numD ws 1, numD ws 2, 0, ⟨#[]⟩, 0, 0, 0, 0, 0⟩) (g := true) (put11_here (x := ⟨5, numD ws 1, numD ws 2, 0, ⟨#[]⟩, 0, 0, 0, 0, 0⟩) (g' := true) ((setCell_off (by omega)).trans ((setCell_off (by omega)).trans aG))) rfl rfl ⟨⟨5, numD ws 1, numD ws 2, 0, ⟨#[]⟩, 0, 0, 0, 0, 0⟩, by rw [hY.out]; rfl, by rw [hY.out]; rfl, (by first | exact put11_below (x := ⟨5, numD ws 1, numD ws 2, 0, ⟨#[]⟩, 0, 0, 0, 0, 0⟩) (g := true) ((hB.setCell (p := ⟨n4, 1, none⟩) (show w.heap.size ≤ n4 by omega) _).setCell (p := ⟨n4, 2, none⟩) (show w.heap.size ≤ n4 by omega) _) (by omega) | exact put11_below (x := ⟨5, numD ws 1, numD ws 2, 0, ⟨#[]⟩, 0, 0, 0, 0, 0⟩) (g := true) (hn₀ ▸ ((hB.setCell (p := ⟨n4, 1, none⟩) (show w.heap.size ≤ n4 by omega) _).setCell (p := ⟨n4, 2, none⟩) (show w.heap.size ≤ n4 by omega) _)) (Nat.le_refl n₀))⟩
                · have hY : lineW ws = some (op8 ⟨6, numD ws 1, 0, 0, ⟨#[]⟩, 0, 0, 0, 0, 0⟩) := by rw [hmade.out]; simp [madeO, op8]
                  replace hY := hid hY
                  have g0 : wc.cell? ⟨n₀, 0, none⟩ = some (.int .i64 0) := cell_blk (i := 0) aG rfl
                  have g1 : wc.cell? ⟨n₀, 1, none⟩ = some (.int .i64 0) := cell_blk (i := 1) aG rfl
                  have g2 : wc.cell? ⟨n₀, 2, none⟩ = some (.int .i64 0) := cell_blk (i := 2) aG rfl
                  have g3 : wc.cell? ⟨n₀, 3, none⟩ = some (.int .i64 0) := cell_blk (i := 3) aG rfl
                  have g4 : wc.cell? ⟨n₀, 4, none⟩ = some (.string ⟨#[]⟩) := cell_blk (i := 4) aG rfl
                  have g5 : wc.cell? ⟨n₀, 5, none⟩ = some (.int .i64 0) := cell_blk (i := 5) aG rfl
                  have g6 : wc.cell? ⟨n₀, 6, none⟩ = some (.int .i64 0) := cell_blk (i := 6) aG rfl
                  have g7 : wc.cell? ⟨n₀, 7, none⟩ = some (.int .i64 0) := cell_blk (i := 7) aG rfl
                  have g8 : wc.cell? ⟨n₀, 8, none⟩ = some (.int .i64 0) := cell_blk (i := 8) aG rfl
                  have g9 : wc.cell? ⟨n₀, 9, none⟩ = some (.int .i64 0) := cell_blk (i := 9) aG rfl
                  have g10 : wc.cell? ⟨n₀, 10, none⟩ = some (.bool false) := cell_blk (i := 10) aG rfl
                  have x0 : wc.cell? ⟨n4, 0, none⟩ = some (.int .i64 6) := cell_blk (i := 0) aX rfl
                  have x1 : wc.cell? ⟨n4, 1, none⟩ = some (.int .i64 0) := cell_blk (i := 1) aX rfl
                  have x2 : wc.cell? ⟨n4, 2, none⟩ = some (.int .i64 0) := cell_blk (i := 2) aX rfl
                  have x3 : wc.cell? ⟨n4, 3, none⟩ = some (.int .i64 0) := cell_blk (i := 3) aX rfl
                  have x4 : wc.cell? ⟨n4, 4, none⟩ = some (.string ⟨#[]⟩) := cell_blk (i := 4) aX rfl
                  have x5 : wc.cell? ⟨n4, 5, none⟩ = some (.int .i64 0) := cell_blk (i := 5) aX rfl
                  have x6 : wc.cell? ⟨n4, 6, none⟩ = some (.int .i64 0) := cell_blk (i := 6) aX rfl
                  have x7 : wc.cell? ⟨n4, 7, none⟩ = some (.int .i64 0) := cell_blk (i := 7) aX rfl
                  have x8 : wc.cell? ⟨n4, 8, none⟩ = some (.int .i64 0) := cell_blk (i := 8) aX rfl
                  have x9 : wc.cell? ⟨n4, 9, none⟩ = some (.int .i64 0) := cell_blk (i := 9) aX rfl
                  go_wp2_with (fail)
                  exact outGot (n₀ := n₀) (y := ⟨6, numD ws 1, 0, 0, ⟨#[]⟩, 0, 0, 0, 0, 0⟩) (g := true) (put11_here (x := ⟨6, numD ws 1, 0, 0, ⟨#[]⟩, 0, 0, 0, 0, 0⟩) (g' := true) ((setCell_off (by omega)).trans aG)) rfl rfl ⟨⟨6, numD ws 1, 0, 0, ⟨#[]⟩, 0, 0, 0, 0, 0⟩, by rw [hY.out]; rfl, by rw [hY.out]; rfl, (by first | exact put11_below (x := ⟨6, numD ws 1, 0, 0, ⟨#[]⟩, 0, 0, 0, 0, 0⟩) (g := true) (hB.setCell (p := ⟨n4, 1, none⟩) (show w.heap.size ≤ n4 by omega) _) (by omega) | exact put11_below (x := ⟨6, numD ws 1, 0, 0, ⟨#[]⟩, 0, 0, 0, 0, 0⟩) (g := true) (hn₀ ▸ (hB.setCell (p := ⟨n4, 1, none⟩) (show w.heap.size ≤ n4 by omega) _)) (Nat.le_refl n₀))⟩
                · have hY : lineW ws = some (op8 ⟨7, numD ws 1, 0, 0, ⟨#[]⟩, 0, 0, 0, 0, 0⟩) := by rw [hmade.out]; simp [madeO, op8]
                  replace hY := hid hY
                  have g0 : wc.cell? ⟨n₀, 0, none⟩ = some (.int .i64 0) := cell_blk (i := 0) aG rfl
                  have g1 : wc.cell? ⟨n₀, 1, none⟩ = some (.int .i64 0) := cell_blk (i := 1) aG rfl
                  have g2 : wc.cell? ⟨n₀, 2, none⟩ = some (.int .i64 0) := cell_blk (i := 2) aG rfl
                  have g3 : wc.cell? ⟨n₀, 3, none⟩ = some (.int .i64 0) := cell_blk (i := 3) aG rfl
                  have g4 : wc.cell? ⟨n₀, 4, none⟩ = some (.string ⟨#[]⟩) := cell_blk (i := 4) aG rfl
                  have g5 : wc.cell? ⟨n₀, 5, none⟩ = some (.int .i64 0) := cell_blk (i := 5) aG rfl
                  have g6 : wc.cell? ⟨n₀, 6, none⟩ = some (.int .i64 0) := cell_blk (i := 6) aG rfl
                  have g7 : wc.cell? ⟨n₀, 7, none⟩ = some (.int .i64 0) := cell_blk (i := 7) aG rfl
                  have g8 : wc.cell? ⟨n₀, 8, none⟩ = some (.int .i64 0) := cell_blk (i := 8) aG rfl
                  have g9 : wc.cell? ⟨n₀, 9, none⟩ = some (.int .i64 0) := cell_blk (i := 9) aG rfl
                  have g10 : wc.cell? ⟨n₀, 10, none⟩ = some (.bool false) := cell_blk (i := 10) aG rfl
                  have x0 : wc.cell? ⟨n4, 0, none⟩ = some (.int .i64 7) := cell_blk (i := 0) aX rfl
                  have x1 : wc.cell? ⟨n4, 1, none⟩ = some (.int .i64 0) := cell_blk (i := 1) aX rfl
                  have x2 : wc.cell? ⟨n4, 2, none⟩ = some (.int .i64 0) := cell_blk (i := 2) aX rfl
                  have x3 : wc.cell? ⟨n4, 3, none⟩ = some (.int .i64 0) := cell_blk (i := 3) aX rfl
                  have x4 : wc.cell? ⟨n4, 4, none⟩ = some (.string ⟨#[]⟩) := cell_blk (i := 4) aX rfl
                  have x5 : wc.cell? ⟨n4, 5, none⟩ = some (.int .i64 0) := cell_blk (i := 5) aX rfl
                  have x6 : wc.cell? ⟨n4, 6, none⟩ = some (.int .i64 0) := cell_blk (i := 6) aX rfl
                  have x7 : wc.cell? ⟨n4, 7, none⟩ = some (.int .i64 0) := cell_blk (i := 7) aX rfl
                  have x8 : wc.cell? ⟨n4, 8, none⟩ = some (.int .i64 0) := cell_blk (i := 8) aX rfl
                  have x9 : wc.cell? ⟨n4, 9, none⟩ = some (.int .i64 0) := cell_blk (i := 9) aX rfl
                  go_wp2_with (fail)
                  exact outGot (n₀ := n₀) (y := ⟨7, numD ws 1, 0, 0, ⟨#[]⟩, 0, 0, 0, 0, 0⟩) (g := true) (put11_here (x := ⟨7, numD ws 1, 0, 0, ⟨#[]⟩, 0, 0, 0, 0, 0⟩) (g' := true) ((setCell_off (by omega)).trans aG)) rfl rfl ⟨⟨7, numD ws 1, 0, 0, ⟨#[]⟩, 0, 0, 0, 0, 0⟩, by rw [hY.out]; rfl, by rw [hY.out]; rfl, (by first | exact put11_below (x := ⟨7, numD ws 1, 0, 0, ⟨#[]⟩, 0, 0, 0, 0, 0⟩) (g := true) (hB.setCell (p := ⟨n4, 1, none⟩) (show w.heap.size ≤ n4 by omega) _) (by omega) | exact put11_below (x := ⟨7, numD ws 1, 0, 0, ⟨#[]⟩, 0, 0, 0, 0, 0⟩) (g := true) (hn₀ ▸ (hB.setCell (p := ⟨n4, 1, none⟩) (show w.heap.size ≤ n4 by omega) _)) (Nat.le_refl n₀))⟩
                · have hY : lineW ws = some (op8 ⟨8, numD ws 1, 0, 0, ⟨#[]⟩, 0, 0, 0, 0, 0⟩) := by rw [hmade.out]; simp [madeO, op8]
                  replace hY := hid hY
                  have g0 : wc.cell? ⟨n₀, 0, none⟩ = some (.int .i64 0) := cell_blk (i := 0) aG rfl
                  have g1 : wc.cell? ⟨n₀, 1, none⟩ = some (.int .i64 0) := cell_blk (i := 1) aG rfl
                  have g2 : wc.cell? ⟨n₀, 2, none⟩ = some (.int .i64 0) := cell_blk (i := 2) aG rfl
                  have g3 : wc.cell? ⟨n₀, 3, none⟩ = some (.int .i64 0) := cell_blk (i := 3) aG rfl
                  have g4 : wc.cell? ⟨n₀, 4, none⟩ = some (.string ⟨#[]⟩) := cell_blk (i := 4) aG rfl
                  have g5 : wc.cell? ⟨n₀, 5, none⟩ = some (.int .i64 0) := cell_blk (i := 5) aG rfl
                  have g6 : wc.cell? ⟨n₀, 6, none⟩ = some (.int .i64 0) := cell_blk (i := 6) aG rfl
                  have g7 : wc.cell? ⟨n₀, 7, none⟩ = some (.int .i64 0) := cell_blk (i := 7) aG rfl
                  have g8 : wc.cell? ⟨n₀, 8, none⟩ = some (.int .i64 0) := cell_blk (i := 8) aG rfl
                  have g9 : wc.cell? ⟨n₀, 9, none⟩ = some (.int .i64 0) := cell_blk (i := 9) aG rfl
                  have g10 : wc.cell? ⟨n₀, 10, none⟩ = some (.bool false) := cell_blk (i := 10) aG rfl
                  have x0 : wc.cell? ⟨n4, 0, none⟩ = some (.int .i64 8) := cell_blk (i := 0) aX rfl
                  have x1 : wc.cell? ⟨n4, 1, none⟩ = some (.int .i64 0) := cell_blk (i := 1) aX rfl
                  have x2 : wc.cell? ⟨n4, 2, none⟩ = some (.int .i64 0) := cell_blk (i := 2) aX rfl
                  have x3 : wc.cell? ⟨n4, 3, none⟩ = some (.int .i64 0) := cell_blk (i := 3) aX rfl
                  have x4 : wc.cell? ⟨n4, 4, none⟩ = some (.string ⟨#[]⟩) := cell_blk (i := 4) aX rfl
                  have x5 : wc.cell? ⟨n4, 5, none⟩ = some (.int .i64 0) := cell_blk (i := 5) aX rfl
                  have x6 : wc.cell? ⟨n4, 6, none⟩ = some (.int .i64 0) := cell_blk (i := 6) aX rfl
                  have x7 : wc.cell? ⟨n4, 7, none⟩ = some (.int .i64 0) := cell_blk (i := 7) aX rfl
                  have x8 : wc.cell? ⟨n4, 8, none⟩ = some (.int .i64 0) := cell_blk (i := 8) aX rfl
                  have x9 : wc.cell? ⟨n4, 9, none⟩ = some (.int .i64 0) := cell_blk (i := 9) aX rfl
                  go_wp2_with (fail)
                  exact outGot (n₀ := n₀) (y := ⟨8, numD ws 1, 0, 0, ⟨#[]⟩, 0, 0, 0, 0, 0⟩) (g := true) (put11_here (x := ⟨8, numD ws 1, 0, 0, ⟨#[]⟩, 0, 0, 0, 0, 0⟩) (g' := true) ((setCell_off (by omega)).trans aG)) rfl rfl ⟨⟨8, numD ws 1, 0, 0, ⟨#[]⟩, 0, 0, 0, 0, 0⟩, by rw [hY.out]; rfl, by rw [hY.out]; rfl, (by first | exact put11_below (x := ⟨8, numD ws 1, 0, 0, ⟨#[]⟩, 0, 0, 0, 0, 0⟩) (g := true) (hB.setCell (p := ⟨n4, 1, none⟩) (show w.heap.size ≤ n4 by omega) _) (by omega) | exact put11_below (x := ⟨8, numD ws 1, 0, 0, ⟨#[]⟩, 0, 0, 0, 0, 0⟩) (g := true) (hn₀ ▸ (hB.setCell (p := ⟨n4, 1, none⟩) (show w.heap.size ≤ n4 by omega) _)) (Nat.le_refl n₀))⟩
        · have hlb : ((WS.length : Int) != (cntOf kd : Int)) = true := by rw [bne_iff_ne]; omega
          have hno : lineW ws = none := by
            rw [hwsn.out, ← hfn.out]
            refine line_count hf ?_
            rw [List.length_map]
            have := hlenb.out
            have := hcf.out
            omega
          replace hno := hid hno
          clear oW oWA
          have fG2 := fun i => frozen_blk aGA (i := i)
          have h0 : (wr.alloc (.cells #[.int .i64 0, .int .i64 8, .int .i64 2, .int .i64 3, .int .i64 1, .int .i64 3, .int .i64 2, .int .i64 1, .int .i64 1] 3)).cell? ⟨n₀, 0, none⟩ = some (.int .i64 0) := cell_blk (i := 0) aGA rfl
          have h1 : (wr.alloc (.cells #[.int .i64 0, .int .i64 8, .int .i64 2, .int .i64 3, .int .i64 1, .int .i64 3, .int .i64 2, .int .i64 1, .int .i64 1] 3)).cell? ⟨n₀, 1, none⟩ = some (.int .i64 0) := cell_blk (i := 1) aGA rfl
          have h2 : (wr.alloc (.cells #[.int .i64 0, .int .i64 8, .int .i64 2, .int .i64 3, .int .i64 1, .int .i64 3, .int .i64 2, .int .i64 1, .int .i64 1] 3)).cell? ⟨n₀, 2, none⟩ = some (.int .i64 0) := cell_blk (i := 2) aGA rfl
          have h3 : (wr.alloc (.cells #[.int .i64 0, .int .i64 8, .int .i64 2, .int .i64 3, .int .i64 1, .int .i64 3, .int .i64 2, .int .i64 1, .int .i64 1] 3)).cell? ⟨n₀, 3, none⟩ = some (.int .i64 0) := cell_blk (i := 3) aGA rfl
          have h4 : (wr.alloc (.cells #[.int .i64 0, .int .i64 8, .int .i64 2, .int .i64 3, .int .i64 1, .int .i64 3, .int .i64 2, .int .i64 1, .int .i64 1] 3)).cell? ⟨n₀, 4, none⟩ = some (.string ⟨#[]⟩) := cell_blk (i := 4) aGA rfl
          have h5 : (wr.alloc (.cells #[.int .i64 0, .int .i64 8, .int .i64 2, .int .i64 3, .int .i64 1, .int .i64 3, .int .i64 2, .int .i64 1, .int .i64 1] 3)).cell? ⟨n₀, 5, none⟩ = some (.int .i64 0) := cell_blk (i := 5) aGA rfl
          have h6 : (wr.alloc (.cells #[.int .i64 0, .int .i64 8, .int .i64 2, .int .i64 3, .int .i64 1, .int .i64 3, .int .i64 2, .int .i64 1, .int .i64 1] 3)).cell? ⟨n₀, 6, none⟩ = some (.int .i64 0) := cell_blk (i := 6) aGA rfl
          have h7 : (wr.alloc (.cells #[.int .i64 0, .int .i64 8, .int .i64 2, .int .i64 3, .int .i64 1, .int .i64 3, .int .i64 2, .int .i64 1, .int .i64 1] 3)).cell? ⟨n₀, 7, none⟩ = some (.int .i64 0) := cell_blk (i := 7) aGA rfl
          have h8 : (wr.alloc (.cells #[.int .i64 0, .int .i64 8, .int .i64 2, .int .i64 3, .int .i64 1, .int .i64 3, .int .i64 2, .int .i64 1, .int .i64 1] 3)).cell? ⟨n₀, 8, none⟩ = some (.int .i64 0) := cell_blk (i := 8) aGA rfl
          have h9 : (wr.alloc (.cells #[.int .i64 0, .int .i64 8, .int .i64 2, .int .i64 3, .int .i64 1, .int .i64 3, .int .i64 2, .int .i64 1, .int .i64 1] 3)).cell? ⟨n₀, 9, none⟩ = some (.int .i64 0) := cell_blk (i := 9) aGA rfl
          have h10 : (wr.alloc (.cells #[.int .i64 0, .int .i64 8, .int .i64 2, .int .i64 3, .int .i64 1, .int .i64 3, .int .i64 2, .int .i64 1, .int .i64 1] 3)).cell? ⟨n₀, 10, none⟩ = some (.bool false) := cell_blk (i := 10) aGA rfl
          go_wp2_with (fail)
          exact outGot (n₀ := n₀) (y := zOp) (g := false) (put11_here (x := zOp) (g' := false) aGA) rfl rfl ⟨zOp, by rw [hno.out]; rfl, by rw [hno.out]; rfl, (by first | exact put11_below (x := zOp) (g := false) hBA (by omega) | exact put11_below (x := zOp) (g := false) (hn₀ ▸ hBA) (Nat.le_refl n₀))⟩
end Go.Proofs.YtkmnmigpnbehaaaDoor
