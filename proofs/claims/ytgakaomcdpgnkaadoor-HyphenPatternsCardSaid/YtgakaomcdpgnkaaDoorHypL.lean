/- The walk of HyphenPatterns. -/
import Derived.Test.YtgakaomcdpgnkaaDoorHypK
namespace Go.Proofs.YtgakaomcdpgnkaaDoor
open Go.RowKit Go.Shelf

def allocs (w : World) : List Obj → World
  | [] => w
  | o :: os => allocs (w.alloc o) os
theorem allocs_kept (B : Nat) : ∀ (l : List Obj) (w : World), Kept B w (allocs w l)
  | [], w => Kept.refl _ _
  | o :: os, w => (Kept.alloc B w o).trans (allocs_kept B os (w.alloc o))
theorem allocs_size : ∀ (l : List Obj) (w : World), (allocs w l).heap.size = w.heap.size + l.length
  | [], w => rfl
  | o :: os, w => by
    show (allocs (w.alloc o) os).heap.size = _
    rw [allocs_size os, World.size_alloc, List.length_cons]; omega
theorem allocs_below {n : Nat} {w0 : World} : ∀ (l : List Obj) (w : World), Below n w0 w → n ≤ w.heap.size → Below n w0 (allocs w l)
  | [], w, h, _ => h
  | o :: os, w, h, hn => allocs_below os (w.alloc o) (h.alloc hn o) (by rw [World.size_alloc]; omega)
theorem allocs_arr : ∀ (l : List Obj) (w : World), (allocs w l).heap = w.heap ++ l.toArray
  | [], w => by simp [allocs]
  | o :: os, w => by
    show (allocs (w.alloc o) os).heap = _
    rw [allocs_arr os]
    show (w.heap.push o) ++ os.toArray = _
    simp
theorem allocs_heap (l : List Obj) (w : World) (i : Nat) (h : i < l.length) : (allocs w l).heap[w.heap.size + i]? = l[i]? := by
  rw [allocs_arr, Array.getElem?_append_right (by omega)]
  simp

def rows0 : List (List Int) := [0, 0, 0, 0, 0] :: trialN.tail
def objsP (b : Nat) : List Obj := .cells (trialW.map fun x => Value.string ⟨x.toArray⟩).toArray 9 :: (rows0.map fun l => Obj.cells (l.flatMap encI).toArray 3) ++
  [.cells ((List.range 15).map fun i => Value.slice (some ⟨b + (1 + i), 0, none⟩) (rows0.getD i []).length (rows0.getD i []).length).toArray 32]

theorem Below_drew1 {n : Nat} {a w : World} (h : Below n a w) : Below n a w.drew := ⟨h.os, h.tape, h.output, h.size, h.block⟩
set_option maxRecDepth 100000 in
set_option maxHeartbeats 4000000 in
theorem HyphenPatterns_any (n : Int) (w : World) (n0 : 0 ≤ n) (n1 : n ≤ 255) (hR : Asp w) : Calls Tryd.prog 7 #[.int .u8 n] w fun e w' => e = .returned (.bool true) ∧ Below w.heap.size w w' := by
  go_enter Tryd.func7, Tryd.ntmps7
  go_upto_region 3 with (fail)
  change Code.wp _ _ _ _ (allocs w (objsP w.heap.size))
  have h1 := allocs_heap (objsP w.heap.size) w 0 (by simp [objsP])
  have h2 := allocs_heap (objsP w.heap.size) w 16 (by simp [objsP, rows0, trialN])
  have h3 : ∀ i, i < 15 → (allocs w (objsP w.heap.size)).heap[w.heap.size + (1 + i)]? = some (.cells ((rows0.getD i []).flatMap encI).toArray 3 (0, 0)) := by
    intro i hi
    rw [allocs_heap (objsP w.heap.size) w (1 + i) (by simp [objsP, rows0, trialN]; omega)]
    match i, hi with
    | 0, _ | 1, _ | 2, _ | 3, _ | 4, _ | 5, _ | 6, _ | 7, _ | 8, _ | 9, _ | 10, _ | 11, _ | 12, _ | 13, _ | 14, _ => rfl
    | i + 15, h => omega
  have hz := allocs_size (objsP w.heap.size) w
  have hB := allocs_below (objsP w.heap.size) w (Below.refl w.heap.size w) (Nat.le_refl _)
  rw [show (objsP w.heap.size).length = 17 from rfl] at hz
  have h0 : (allocs w (objsP w.heap.size)).heap[w.heap.size]? = some (.cells (trialW.map fun x => Value.string ⟨x.toArray⟩).toArray 9 (0, 0)) := h1
  replace h2 : (allocs w (objsP w.heap.size)).heap[w.heap.size + 16]? = some (.cells ((List.range 15).map fun i => Value.slice (some ⟨w.heap.size + (1 + i), 0, none⟩) (rows0.getD i []).length (rows0.getD i []).length).toArray 32 (0, 0)) := h2
  clear h1
  generalize allocs w (objsP w.heap.size) = W1 at *
  have hr0 : W1.heap[w.heap.size + 1]? = some (.cells #[.int .i64 0, .int .i64 0, .int .i64 0, .int .i64 0, .int .i64 0] 3 (0, 0)) := h3 0 (by omega)
  have c0 := cell_blk hr0 (i := 0) rfl
  have f0 := frozen_blk (i := 0) hr0
  have c2 : W1.cell? ⟨w.heap.size + 16, 0, none⟩ = some (.slice (some ⟨w.heap.size + 1, 0, none⟩) 5 5) := cell_blk h2 rfl
  generalize hb : w.heap.size = b at *
  obtain ⟨W2, hW2⟩ : ∃ W2, W1.setCell ⟨b + 1, 0, none⟩ (.int .i64 1) = W2 := ⟨_, rfl⟩
  have ho : ∀ k, k ≠ b + 1 → W2.heap[k]? = W1.heap[k]? := fun k hk => by rw [← hW2]; exact setCell_off hk
  have hB2 : Below b w W2 := by rw [← hW2]; exact hB.setCell (p := ⟨b + 1, 0, none⟩) (by simp) _
  have hw2 : ∀ k (hk : k < 15), W2.cell? ⟨b, k, none⟩ = some (.string ⟨(trialW[k]'hk).toArray⟩) := by
    intro k hk
    refine cell_blk ((ho b (by omega)).trans h0) ?_
    simp only [List.getElem?_toArray, List.getElem?_map]
    rw [List.getElem?_eq_getElem (by exact hk)]; rfl
  have hlen : ∀ k (hk : k < 15), (rows0.getD k []).length = (trialN[k]'hk).length := by decide
  have ha2 : ∀ k (hk : k < 15), W2.cell? ⟨b + 16, k, none⟩ = some (.slice (some ⟨b + (1 + k), 0, none⟩) (trialN[k]'hk).length (trialN[k]'hk).length) := by
    intro k hk
    refine cell_blk ((ho (b + 16) (by omega)).trans h2) ?_
    rw [← hlen k hk]
    simp [List.getElem?_range hk]
  have hs2 : ∀ k (hk : k < 15), Sl W2 1 encI (.slice (some ⟨b + (1 + k), 0, none⟩) (trialN[k]'hk).length (trialN[k]'hk).length) (trialN[k]'hk) := by
    intro k hk
    have hl : ∀ k (hk : k < 15), (trialN[k]'hk).length ≤ 5 := by decide
    have hl2 := hl k hk
    refine sl_row (t := 3) ?_ (by unfold maxLen; omega)
    by_cases h : k = 0
    · subst h
      rw [← hW2]
      exact setCell_blk (i := 0) (x := .int .i64 1) hr0
    · rw [ho _ (by omega), h3 k hk, map_encI]
      have : ∀ k (hk : k < 15), k ≠ 0 → rows0.getD k [] = trialN[k]'hk := by decide
      rw [this k hk h]; rfl
  have hz2 : W2.heap.size = b + 17 := by rw [← hW2]; simp [World.setCell, hz]
  clear h0 h2 h3 hr0 hB hz ho hlen
  obtain ⟨m, hm⟩ : ∃ m : Nat, n % 40 = m := ⟨(n % 40).toNat, by omega⟩
  obtain ⟨k, hk⟩ : ∃ k : Nat, n % 15 = k := ⟨(n % 15).toNat, by omega⟩
  have hm4 : m < 40 := by omega
  have hk15 : k < 15 := by omega
  have cw := hw2 k hk15
  have ca := ha2 k hk15
  have cs := hs2 k hk15
  have htr : numbersL (trialW[k]'hk15) = trialN[k]'hk15 := by
    have h := congrArg (·[k]?) trial_eq
    simp only [List.getElem?_map] at h
    rw [List.getElem?_eq_getElem (show k < trialW.length from hk15), List.getElem?_eq_getElem (show k < trialN.length from hk15)] at h
    simp only [Option.map_some] at h
    exact Option.some.inj h
  have hwl : (trialW[k]'hk15).length ≤ 6 := by
    have : ∀ k (hk : k < 15), (trialW[k]'hk).length ≤ 6 := by decide
    exact this k hk15
  have hn1 := none_eq m hm4
  have hn2 := none_points m hm4
  replace hW2 := hid hW2
  replace htr := hid htr
  replace hn1 := hid hn1
  replace hn2 := hid hn2
  clear hw2 ha2 hs2
  generalize trialN[k]'hk15 = TN at *
  generalize trialW[k]'hk15 = TW at *
  go_wp2_with (fail)
  rw [hW2.out]
  go_loopw [6, 7] (fun x i wr => ∃ (q : Nat) (X : ByteArray), q ≤ m + 2 ∧ i = .int .i64 q ∧ x = .string X ∧ X.data.toList = List.replicate q 120 ∧ wr = W2) (fun _ i _ => m + 2 - (RowKit.intOf i).toNat)
  case atStart => exact ⟨0, _, by omega, rfl, rfl, rfl, rfl⟩
  case round =>
    obtain ⟨q, X, hq, rfl, rfl, hX, rfl⟩ := hrel
    have hXs : X.size = q := by
      have h1 : X.data.toList.length = X.size := by rw [Array.length_toList]; rfl
      rw [← h1, hX, List.length_replicate]
    by_cases hqm : (q : Int) < 2 + m
    · obtain ⟨Y, hY⟩ : ∃ Y : ByteArray, Y = X ++ ⟨#[120]⟩ := ⟨_, rfl⟩
      have hadd : ∀ w, (Op.stringOp .add X ⟨#[120]⟩).run Tryd.prog w = .ok (.string Y) w := fun w => by
        rw [hY]; exact run_string_add w _ _ (by omega) (by show ((1 : Nat) : Int) ≤ _; decide)
      have hYl := hid (show Y.data.toList = List.replicate (q + 1) 120 by
        rw [hY, ByteArray.data_append, Array.toList_append, hX, List.replicate_succ'])
      clear hY
      go_wp2_with (fail)
      exact ⟨⟨q + 1, Y, by omega, by go_num, rfl, hYl.out, trivial⟩, by simp [RowKit.intOf]; omega⟩
    · obtain rfl : q = m + 2 := by omega
      have cN0 := hid (Nums_at (W := wr) hR (hb ▸ hB2) X (List.replicate (m + 1) 0) (by omega) (by rw [hX]; exact hn1.out))
      have cP := hid (fun W (hB : Below w.heap.size w W) => Pts_at hR hB X [] (by omega) (by rw [hX, hn1.out]; exact hn2.out))
      have cN := hid (fun W (hB : Below w.heap.size w W) => Nums_at hR hB ⟨TW.toArray⟩ TN (by show TW.length ≤ _; omega) htr.out)
      have cW := hid (fun W (hB : Below w.heap.size w W) => wakes13 W (hR.below hB))
      clear hW2 c0 f0 c2 hX
      go_wp2_with (fail)
      refine cN0.out.mono ?_
      rintro e w3 ⟨v3, rfl, s3, b3, B3⟩
      have ca3 := (b3.cell (p := ⟨b + 16, k, none⟩) (by simp only []; omega)).trans ca
      have cw3 := (b3.cell (p := ⟨b, k, none⟩) (by simp only []; omega)).trans cw
      have cs3 := (Kept.of_below b3 0).sl cs
      have hz3 := b3.size
      have hzl : ∀ i (h : i < (List.replicate (m + 1) (0 : Int)).length), (List.replicate (m + 1) (0 : Int))[i] = 0 := fun i h => by simp
      have hNl : (List.replicate (m + 1) (0 : Int)).length = m + 1 := by simp
      generalize List.replicate (m + 1) (0 : Int) = NL at *
      obtain ⟨pu, cu, rfl, hu⟩ := s3.shape
      rw [hNl] at hu
      obtain ⟨nb, no, cap, e1, e2, e3, e4⟩ := s3.open (by rintro rfl; simp at hNl)
      rw [hNl] at e1 e2 ⊢
      simp only [Value.slice.injEq, true_and] at e1
      obtain ⟨rfl, rfl⟩ := e1
      clear cN0 b3 cw ca cs
      go_wp2_with (fail)
      go_loopw [9] (fun i wx => ∃ q : Nat, q ≤ m + 1 ∧ i = .int .i64 q ∧ wx = w3) (fun i _ => m + 1 - (RowKit.intOf i).toNat)
      case atStart => exact ⟨0, by omega, rfl, rfl⟩
      case round =>
        obtain ⟨q, hq, rfl, rfl⟩ := hrel
        by_cases hqm : q < m + 1
        · have hqI : (q : Int) < m + 1 := by omega
          have hck := rangeAt_one (e4 q NL[q] (List.getElem?_eq_getElem (by omega)))
          rw [Nat.mul_one, hzl q (by omega)] at hck
          go_wp2_with (fail)
          exact ⟨⟨q + 1, by omega, by go_num, trivial⟩, by simp [RowKit.intOf]; omega⟩
        · obtain rfl : q = m + 1 := by omega
          clear e4 hzl s3 hn1 hn2 htr
          have hkI : (k : Int) < 15 := by omega
          have hsub : (m : Int) + 2 - 1 = m + 1 := by omega
          have hwm : IntKind.i64.wrap ((m : Int) + 1) = m + 1 := IntWalk.i64_in _ (by omega)
          go_upto_region 16 with (fail)
          refine wp_region_any (by kernel_rfl) ?_
          try (change wpAny _ _ _ _ _ _ _ (World.drew _))
          refine wpAny_take (i := 0) (oi := ⟨some 59, _, _, _, _, _⟩) (v := ?_) rfl (by kernel_rfl) (by kernel_rfl) (by kernel_rfl) (fun _ _ _ h => h) (Or.inl ⟨by rfl, ?_⟩) ?_
          rotate_left
          · intro w; go_simp <;> with_reducible rfl
          simp only [Act.put, List.setIfInBounds_toArray, List.set_cons_zero, List.set_cons_succ]
          refine wpAny_take (i := 1) (oi := ⟨some 60, _, _, _, _, _⟩) (v := ?_) rfl (by kernel_rfl) (by kernel_rfl) (by kernel_rfl) (fun _ _ _ h => h) (Or.inl ⟨by rfl, ?_⟩) ?_
          rotate_left
          · intro w; go_simp <;> with_reducible rfl
          simp only [Act.put, List.setIfInBounds_toArray, List.set_cons_zero, List.set_cons_succ]
          refine wpAny_take (i := 2) (oi := ⟨some 61, _, _, _, _, _⟩) (v := ?_) rfl (by kernel_rfl) (by kernel_rfl) (by kernel_rfl) (fun _ _ _ h => h) (Or.inl ⟨by rfl, ?_⟩) ?_
          rotate_left
          · intro w; go_simp <;> with_reducible rfl
          simp only [Act.put, List.setIfInBounds_toArray, List.set_cons_zero, List.set_cons_succ]
          refine wpAny_take (i := 3) (oi := ⟨some 62, _, _, _, _, _⟩) (v := ?_) rfl (by kernel_rfl) (by kernel_rfl) (by kernel_rfl) (fun _ _ _ h => h) (Or.inl ⟨by rfl, ?_⟩) ?_
          rotate_left
          · intro w; go_simp <;> with_reducible rfl
          simp only [Act.put, List.setIfInBounds_toArray, List.set_cons_zero, List.set_cons_succ]
          refine wpAny_take (i := 4) (oi := ⟨some 63, _, _, _, _, _⟩) (v := ?_) rfl (by kernel_rfl) (by kernel_rfl) (by kernel_rfl) (fun _ _ _ h => h) (Or.inl ⟨by rfl, ?_⟩) ?_
          rotate_left
          · intro w; go_simp <;> with_reducible rfl
          simp only [Act.put, List.setIfInBounds_toArray, List.set_cons_zero, List.set_cons_succ]
          refine wpAny_take (i := 5) (oi := ⟨some 64, _, _, _, _, _⟩) (v := ?_) rfl (by kernel_rfl) (by kernel_rfl) (by kernel_rfl) (fun _ _ _ h => h) (Or.inl ⟨by rfl, ?_⟩) ?_
          rotate_left
          · intro w; go_simp <;> with_reducible rfl
          simp only [Act.put, List.setIfInBounds_toArray, List.set_cons_zero, List.set_cons_succ]
          refine wpAny_take (i := 6) (oi := ⟨some 65, _, _, _, _, _⟩) (v := ?_) rfl (by kernel_rfl) (by kernel_rfl) (by kernel_rfl) (fun _ _ _ h => h) (Or.inl ⟨by rfl, ?_⟩) ?_
          rotate_left
          · intro w; go_simp <;> with_reducible rfl
          simp only [Act.put, List.setIfInBounds_toArray, List.set_cons_zero, List.set_cons_succ]
          refine wpAny_take (i := 7) (oi := ⟨some 66, _, _, _, _, _⟩) (v := ?_) rfl (by kernel_rfl) (by kernel_rfl) (by kernel_rfl) (fun _ _ _ h => h) (Or.inl ⟨by rfl, ?_⟩) ?_
          rotate_left
          · intro w; go_simp <;> with_reducible rfl
          simp only [Act.put, List.setIfInBounds_toArray, List.set_cons_zero, List.set_cons_succ]
          refine wpAny_take (i := 8) (oi := ⟨some 67, _, _, _, _, _⟩) (v := ?_) rfl (by kernel_rfl) (by kernel_rfl) (by kernel_rfl) (fun _ _ _ h => h) (Or.inl ⟨by rfl, ?_⟩) ?_
          rotate_left
          · intro w; go_simp <;> with_reducible rfl
          simp only [Act.put, List.setIfInBounds_toArray, List.set_cons_zero, List.set_cons_succ]
          refine wpAny_take (i := 9) (oi := ⟨some 68, _, _, _, _, _⟩) (v := ?_) rfl (by kernel_rfl) (by kernel_rfl) (by kernel_rfl) (fun _ _ _ h => h) (Or.inl ⟨by rfl, ?_⟩) ?_
          rotate_left
          · intro w; go_simp <;> with_reducible rfl
          simp only [Act.put, List.setIfInBounds_toArray, List.set_cons_zero, List.set_cons_succ]
          refine wpAny_take (i := 12) (oi := ⟨some 71, _, _, _, _, _⟩) (v := ?_) rfl (by kernel_rfl) (by kernel_rfl) (by kernel_rfl) (fun _ _ _ h => h) (Or.inl ⟨by rfl, ?_⟩) ?_
          rotate_left
          · intro w; go_simp <;> with_reducible rfl
          simp only [Act.put, List.setIfInBounds_toArray, List.set_cons_zero, List.set_cons_succ]
          refine wpAny_take (i := 13) (oi := ⟨some 72, _, _, _, _, _⟩) (v := ?_) rfl (by kernel_rfl) (by kernel_rfl) (by kernel_rfl) (fun _ _ _ h => h) (Or.inl ⟨by rfl, ?_⟩) ?_
          rotate_left
          · intro w; go_simp <;> with_reducible rfl
          simp only [Act.put, List.setIfInBounds_toArray, List.set_cons_zero, List.set_cons_succ]
          refine wpAny_take (i := 14) (oi := ⟨some 73, _, _, _, _, _⟩) (v := ?_) rfl (by kernel_rfl) (by kernel_rfl) (by kernel_rfl) (fun _ _ _ h => h) (Or.inl ⟨by rfl, ?_⟩) ?_
          rotate_left
          · intro w; go_simp <;> with_reducible rfl
          simp only [Act.put, List.setIfInBounds_toArray, List.set_cons_zero, List.set_cons_succ]
          refine wpAny_ready (rs := [10, 15]) (by kernel_rfl) (by simp) ?_
          refine AllReady.cons rfl (fun K hK => ?_) ?_
          · go_simp
            first | refine hK _ _ ?_ | refine ⟨trivial, hK _ _ ?_⟩ | refine ⟨fun _ _ => trivial, hK _ _ ?_⟩
            clear hK K
            refine wpAny_ready (rs := [11, 15]) (by kernel_rfl) (by simp) ?_
            refine AllReady.cons rfl (fun K hK => ?_) ?_
            · go_simp
              refine (cN.out _ (Below_drew1 B3)).mono ?_
              rintro e w5 ⟨v5, rfl, s5, b5, B5⟩
              have ca5 := (b5.cell (p := ⟨b + 16, k, none⟩) (by show b + 16 < wr.heap.size; omega)).trans (show wr.drew.cell? ⟨b + 16, k, none⟩ = _ from ca3)
              have cs5 := (Kept.of_below b5 0).sl ((Kept.drew 0 wr).sl cs3)
              first | refine hK _ _ ?_ | refine ⟨trivial, hK _ _ ?_⟩ | refine ⟨fun _ _ => trivial, hK _ _ ?_⟩
              clear hK K
              refine wpAny_ready (rs := [15]) (by kernel_rfl) (by simp) ?_
              refine AllReady.cons rfl (fun K hK => ?_) AllReady.nil
              go_simp
              first | refine hK _ _ ?_ | refine ⟨trivial, hK _ _ ?_⟩ | refine ⟨fun _ _ => trivial, hK _ _ ?_⟩
              clear hK K
              refine wpAny_ready (rs := [16]) (by kernel_rfl) (by simp) ?_
              refine AllReady.cons rfl (fun K hK => ?_) AllReady.nil
              go_simp
              refine (IntsSame _ _ _ _ s5 cs5).mono ?_
              rintro e w6 ⟨rfl, d6⟩
              have B6 := below_drew B5 d6
              first | refine hK _ _ ?_ | refine ⟨trivial, hK _ _ ?_⟩ | refine ⟨fun _ _ => trivial, hK _ _ ?_⟩
              clear hK K
              refine wpAny_take (i := 17) (oi := ⟨some 76, _, _, _, _, _⟩) (v := ?_) rfl (by kernel_rfl) (by kernel_rfl) (by kernel_rfl) (fun _ _ _ h => h) (Or.inl ⟨by rfl, ?_⟩) ?_
              rotate_left
              · intro w; go_simp <;> with_reducible rfl
              simp only [Act.put, List.setIfInBounds_toArray, List.set_cons_zero, List.set_cons_succ]
              refine wpAny_take (i := 18) (oi := ⟨some 77, _, _, _, _, _⟩) (v := ?_) rfl (by kernel_rfl) (by kernel_rfl) (by kernel_rfl) (fun _ _ _ h => h) (Or.inl ⟨by rfl, ?_⟩) ?_
              rotate_left
              · intro w; go_simp <;> with_reducible rfl
              simp only [Act.put, List.setIfInBounds_toArray, List.set_cons_zero, List.set_cons_succ]
              refine wpAny_take (i := 19) (oi := ⟨some 78, _, _, _, _, _⟩) (v := ?_) rfl (by kernel_rfl) (by kernel_rfl) (by kernel_rfl) (fun _ _ _ h => h) (Or.inl ⟨by rfl, ?_⟩) ?_
              rotate_left
              · intro w; go_simp <;> with_reducible rfl
              simp only [Act.put, List.setIfInBounds_toArray, List.set_cons_zero, List.set_cons_succ]
              refine wpAny_ready (rs := [20]) (by kernel_rfl) (by simp) ?_
              refine AllReady.cons rfl (fun K hK => ?_) AllReady.nil
              go_simp
              refine (cP.out _ B6).mono ?_
              rintro e w7 ⟨v7, rfl, s7, b7, B7⟩
              obtain ⟨p7, c7, rfl⟩ := s7.nil_shape
              first | refine hK _ _ ?_ | refine ⟨trivial, hK _ _ ?_⟩ | refine ⟨fun _ _ => trivial, hK _ _ ?_⟩
              clear hK K
              refine wpAny_take (i := 21) (oi := ⟨some 80, _, _, _, _, _⟩) (v := ?_) rfl (by kernel_rfl) (by kernel_rfl) (by kernel_rfl) (fun _ _ _ h => h) (Or.inl ⟨by rfl, ?_⟩) ?_
              rotate_left
              · intro w; go_simp <;> with_reducible rfl
              simp only [Act.put, List.setIfInBounds_toArray, List.set_cons_zero, List.set_cons_succ]
              refine wpAny_take (i := 22) (oi := ⟨some 81, _, _, _, _, _⟩) (v := ?_) rfl (by kernel_rfl) (by kernel_rfl) (by kernel_rfl) (fun _ _ _ h => h) (Or.inl ⟨by rfl, ?_⟩) ?_
              rotate_left
              · intro w; go_simp <;> with_reducible rfl
              simp only [Act.put, List.setIfInBounds_toArray, List.set_cons_zero, List.set_cons_succ]
              refine wpAny_take (i := 23) (oi := ⟨some 82, _, _, _, _, _⟩) (v := ?_) rfl (by kernel_rfl) (by kernel_rfl) (by kernel_rfl) (fun _ _ _ h => h) (Or.inl ⟨by rfl, ?_⟩) ?_
              rotate_left
              · intro w; go_simp <;> with_reducible rfl
              simp only [Act.put, List.setIfInBounds_toArray, List.set_cons_zero, List.set_cons_succ]
              refine wpAny_take (i := 24) (oi := ⟨some 83, _, _, _, _, _⟩) (v := ?_) rfl (by kernel_rfl) (by kernel_rfl) (by kernel_rfl) (fun _ _ _ h => h) (Or.inl ⟨by rfl, ?_⟩) ?_
              rotate_left
              · intro w; go_simp <;> with_reducible rfl
              simp only [Act.put, List.setIfInBounds_toArray, List.set_cons_zero, List.set_cons_succ]
              refine wpAny_ready (rs := [25]) (by kernel_rfl) (by simp) ?_
              refine AllReady.cons rfl (fun K hK => ?_) AllReady.nil
              go_simp
              refine (cW.out _ B7).mono ?_
              rintro e w8 ⟨rfl, b8⟩
              have B8 := B7.trans (b8.mono B7.size)
              first | refine hK _ _ ?_ | refine ⟨trivial, hK _ _ ?_⟩ | refine ⟨fun _ _ => trivial, hK _ _ ?_⟩
              clear hK K
              refine wpAny_take (i := 26) (oi := ⟨some 85, _, _, _, _, _⟩) (v := ?_) rfl (by kernel_rfl) (by kernel_rfl) (by kernel_rfl) (fun _ _ _ h => h) (Or.inl ⟨by rfl, ?_⟩) ?_
              rotate_left
              · intro w; go_simp <;> with_reducible rfl
              simp only [Act.put, List.setIfInBounds_toArray, List.set_cons_zero, List.set_cons_succ]
              refine wpAny_ready (rs := [27]) (by kernel_rfl) (by simp) ?_
              refine AllReady.cons rfl (fun K hK => ?_) AllReady.nil
              go_simp
              first | refine hK _ _ ?_ | refine ⟨trivial, hK _ _ ?_⟩ | refine ⟨fun _ _ => trivial, hK _ _ ?_⟩
              clear hK K
              refine wpAny_done (by kernel_rfl) ?_ _
              go_wp2
              go_ret
              exact ⟨rfl, hb ▸ B8⟩
            refine AllReady.cons rfl (fun K hK => ?_) AllReady.nil
            go_simp
            first | refine hK _ _ ?_ | refine ⟨trivial, hK _ _ ?_⟩ | refine ⟨fun _ _ => trivial, hK _ _ ?_⟩
            clear hK K
            refine wpAny_ready (rs := [11]) (by kernel_rfl) (by simp) ?_
            refine AllReady.cons rfl (fun K hK => ?_) AllReady.nil
            go_simp
            refine (cN.out _ (Below_drew1 B3)).mono ?_
            rintro e w5 ⟨v5, rfl, s5, b5, B5⟩
            have ca5 := (b5.cell (p := ⟨b + 16, k, none⟩) (by show b + 16 < wr.heap.size; omega)).trans (show wr.drew.cell? ⟨b + 16, k, none⟩ = _ from ca3)
            have cs5 := (Kept.of_below b5 0).sl ((Kept.drew 0 wr).sl cs3)
            first | refine hK _ _ ?_ | refine ⟨trivial, hK _ _ ?_⟩ | refine ⟨fun _ _ => trivial, hK _ _ ?_⟩
            clear hK K
            refine wpAny_ready (rs := [16]) (by kernel_rfl) (by simp) ?_
            refine AllReady.cons rfl (fun K hK => ?_) AllReady.nil
            go_simp
            refine (IntsSame _ _ _ _ s5 cs5).mono ?_
            rintro e w6 ⟨rfl, d6⟩
            have B6 := below_drew B5 d6
            first | refine hK _ _ ?_ | refine ⟨trivial, hK _ _ ?_⟩ | refine ⟨fun _ _ => trivial, hK _ _ ?_⟩
            clear hK K
            refine wpAny_take (i := 17) (oi := ⟨some 76, _, _, _, _, _⟩) (v := ?_) rfl (by kernel_rfl) (by kernel_rfl) (by kernel_rfl) (fun _ _ _ h => h) (Or.inl ⟨by rfl, ?_⟩) ?_
            rotate_left
            · intro w; go_simp <;> with_reducible rfl
            simp only [Act.put, List.setIfInBounds_toArray, List.set_cons_zero, List.set_cons_succ]
            refine wpAny_take (i := 18) (oi := ⟨some 77, _, _, _, _, _⟩) (v := ?_) rfl (by kernel_rfl) (by kernel_rfl) (by kernel_rfl) (fun _ _ _ h => h) (Or.inl ⟨by rfl, ?_⟩) ?_
            rotate_left
            · intro w; go_simp <;> with_reducible rfl
            simp only [Act.put, List.setIfInBounds_toArray, List.set_cons_zero, List.set_cons_succ]
            refine wpAny_take (i := 19) (oi := ⟨some 78, _, _, _, _, _⟩) (v := ?_) rfl (by kernel_rfl) (by kernel_rfl) (by kernel_rfl) (fun _ _ _ h => h) (Or.inl ⟨by rfl, ?_⟩) ?_
            rotate_left
            · intro w; go_simp <;> with_reducible rfl
            simp only [Act.put, List.setIfInBounds_toArray, List.set_cons_zero, List.set_cons_succ]
            refine wpAny_ready (rs := [20]) (by kernel_rfl) (by simp) ?_
            refine AllReady.cons rfl (fun K hK => ?_) AllReady.nil
            go_simp
            refine (cP.out _ B6).mono ?_
            rintro e w7 ⟨v7, rfl, s7, b7, B7⟩
            obtain ⟨p7, c7, rfl⟩ := s7.nil_shape
            first | refine hK _ _ ?_ | refine ⟨trivial, hK _ _ ?_⟩ | refine ⟨fun _ _ => trivial, hK _ _ ?_⟩
            clear hK K
            refine wpAny_take (i := 21) (oi := ⟨some 80, _, _, _, _, _⟩) (v := ?_) rfl (by kernel_rfl) (by kernel_rfl) (by kernel_rfl) (fun _ _ _ h => h) (Or.inl ⟨by rfl, ?_⟩) ?_
            rotate_left
            · intro w; go_simp <;> with_reducible rfl
            simp only [Act.put, List.setIfInBounds_toArray, List.set_cons_zero, List.set_cons_succ]
            refine wpAny_take (i := 22) (oi := ⟨some 81, _, _, _, _, _⟩) (v := ?_) rfl (by kernel_rfl) (by kernel_rfl) (by kernel_rfl) (fun _ _ _ h => h) (Or.inl ⟨by rfl, ?_⟩) ?_
            rotate_left
            · intro w; go_simp <;> with_reducible rfl
            simp only [Act.put, List.setIfInBounds_toArray, List.set_cons_zero, List.set_cons_succ]
            refine wpAny_take (i := 23) (oi := ⟨some 82, _, _, _, _, _⟩) (v := ?_) rfl (by kernel_rfl) (by kernel_rfl) (by kernel_rfl) (fun _ _ _ h => h) (Or.inl ⟨by rfl, ?_⟩) ?_
            rotate_left
            · intro w; go_simp <;> with_reducible rfl
            simp only [Act.put, List.setIfInBounds_toArray, List.set_cons_zero, List.set_cons_succ]
            refine wpAny_take (i := 24) (oi := ⟨some 83, _, _, _, _, _⟩) (v := ?_) rfl (by kernel_rfl) (by kernel_rfl) (by kernel_rfl) (fun _ _ _ h => h) (Or.inl ⟨by rfl, ?_⟩) ?_
            rotate_left
            · intro w; go_simp <;> with_reducible rfl
            simp only [Act.put, List.setIfInBounds_toArray, List.set_cons_zero, List.set_cons_succ]
            refine wpAny_ready (rs := [25]) (by kernel_rfl) (by simp) ?_
            refine AllReady.cons rfl (fun K hK => ?_) AllReady.nil
            go_simp
            refine (cW.out _ B7).mono ?_
            rintro e w8 ⟨rfl, b8⟩
            have B8 := B7.trans (b8.mono B7.size)
            first | refine hK _ _ ?_ | refine ⟨trivial, hK _ _ ?_⟩ | refine ⟨fun _ _ => trivial, hK _ _ ?_⟩
            clear hK K
            refine wpAny_take (i := 26) (oi := ⟨some 85, _, _, _, _, _⟩) (v := ?_) rfl (by kernel_rfl) (by kernel_rfl) (by kernel_rfl) (fun _ _ _ h => h) (Or.inl ⟨by rfl, ?_⟩) ?_
            rotate_left
            · intro w; go_simp <;> with_reducible rfl
            simp only [Act.put, List.setIfInBounds_toArray, List.set_cons_zero, List.set_cons_succ]
            refine wpAny_ready (rs := [27]) (by kernel_rfl) (by simp) ?_
            refine AllReady.cons rfl (fun K hK => ?_) AllReady.nil
            go_simp
            first | refine hK _ _ ?_ | refine ⟨trivial, hK _ _ ?_⟩ | refine ⟨fun _ _ => trivial, hK _ _ ?_⟩
            clear hK K
            refine wpAny_done (by kernel_rfl) ?_ _
            go_wp2
            go_ret
            exact ⟨rfl, hb ▸ B8⟩
          refine AllReady.cons rfl (fun K hK => ?_) AllReady.nil
          go_simp
          first | refine hK _ _ ?_ | refine ⟨trivial, hK _ _ ?_⟩ | refine ⟨fun _ _ => trivial, hK _ _ ?_⟩
          clear hK K
          refine wpAny_ready (rs := [10]) (by kernel_rfl) (by simp) ?_
          refine AllReady.cons rfl (fun K hK => ?_) AllReady.nil
          go_simp
          first | refine hK _ _ ?_ | refine ⟨trivial, hK _ _ ?_⟩ | refine ⟨fun _ _ => trivial, hK _ _ ?_⟩
          clear hK K
          refine wpAny_ready (rs := [11]) (by kernel_rfl) (by simp) ?_
          refine AllReady.cons rfl (fun K hK => ?_) AllReady.nil
          go_simp
          refine (cN.out _ (Below_drew1 B3)).mono ?_
          rintro e w5 ⟨v5, rfl, s5, b5, B5⟩
          have ca5 := (b5.cell (p := ⟨b + 16, k, none⟩) (by show b + 16 < wr.heap.size; omega)).trans (show wr.drew.cell? ⟨b + 16, k, none⟩ = _ from ca3)
          have cs5 := (Kept.of_below b5 0).sl ((Kept.drew 0 wr).sl cs3)
          first | refine hK _ _ ?_ | refine ⟨trivial, hK _ _ ?_⟩ | refine ⟨fun _ _ => trivial, hK _ _ ?_⟩
          clear hK K
          refine wpAny_ready (rs := [16]) (by kernel_rfl) (by simp) ?_
          refine AllReady.cons rfl (fun K hK => ?_) AllReady.nil
          go_simp
          refine (IntsSame _ _ _ _ s5 cs5).mono ?_
          rintro e w6 ⟨rfl, d6⟩
          have B6 := below_drew B5 d6
          first | refine hK _ _ ?_ | refine ⟨trivial, hK _ _ ?_⟩ | refine ⟨fun _ _ => trivial, hK _ _ ?_⟩
          clear hK K
          refine wpAny_take (i := 17) (oi := ⟨some 76, _, _, _, _, _⟩) (v := ?_) rfl (by kernel_rfl) (by kernel_rfl) (by kernel_rfl) (fun _ _ _ h => h) (Or.inl ⟨by rfl, ?_⟩) ?_
          rotate_left
          · intro w; go_simp <;> with_reducible rfl
          simp only [Act.put, List.setIfInBounds_toArray, List.set_cons_zero, List.set_cons_succ]
          refine wpAny_take (i := 18) (oi := ⟨some 77, _, _, _, _, _⟩) (v := ?_) rfl (by kernel_rfl) (by kernel_rfl) (by kernel_rfl) (fun _ _ _ h => h) (Or.inl ⟨by rfl, ?_⟩) ?_
          rotate_left
          · intro w; go_simp <;> with_reducible rfl
          simp only [Act.put, List.setIfInBounds_toArray, List.set_cons_zero, List.set_cons_succ]
          refine wpAny_take (i := 19) (oi := ⟨some 78, _, _, _, _, _⟩) (v := ?_) rfl (by kernel_rfl) (by kernel_rfl) (by kernel_rfl) (fun _ _ _ h => h) (Or.inl ⟨by rfl, ?_⟩) ?_
          rotate_left
          · intro w; go_simp <;> with_reducible rfl
          simp only [Act.put, List.setIfInBounds_toArray, List.set_cons_zero, List.set_cons_succ]
          refine wpAny_ready (rs := [20]) (by kernel_rfl) (by simp) ?_
          refine AllReady.cons rfl (fun K hK => ?_) AllReady.nil
          go_simp
          refine (cP.out _ B6).mono ?_
          rintro e w7 ⟨v7, rfl, s7, b7, B7⟩
          obtain ⟨p7, c7, rfl⟩ := s7.nil_shape
          first | refine hK _ _ ?_ | refine ⟨trivial, hK _ _ ?_⟩ | refine ⟨fun _ _ => trivial, hK _ _ ?_⟩
          clear hK K
          refine wpAny_take (i := 21) (oi := ⟨some 80, _, _, _, _, _⟩) (v := ?_) rfl (by kernel_rfl) (by kernel_rfl) (by kernel_rfl) (fun _ _ _ h => h) (Or.inl ⟨by rfl, ?_⟩) ?_
          rotate_left
          · intro w; go_simp <;> with_reducible rfl
          simp only [Act.put, List.setIfInBounds_toArray, List.set_cons_zero, List.set_cons_succ]
          refine wpAny_take (i := 22) (oi := ⟨some 81, _, _, _, _, _⟩) (v := ?_) rfl (by kernel_rfl) (by kernel_rfl) (by kernel_rfl) (fun _ _ _ h => h) (Or.inl ⟨by rfl, ?_⟩) ?_
          rotate_left
          · intro w; go_simp <;> with_reducible rfl
          simp only [Act.put, List.setIfInBounds_toArray, List.set_cons_zero, List.set_cons_succ]
          refine wpAny_take (i := 23) (oi := ⟨some 82, _, _, _, _, _⟩) (v := ?_) rfl (by kernel_rfl) (by kernel_rfl) (by kernel_rfl) (fun _ _ _ h => h) (Or.inl ⟨by rfl, ?_⟩) ?_
          rotate_left
          · intro w; go_simp <;> with_reducible rfl
          simp only [Act.put, List.setIfInBounds_toArray, List.set_cons_zero, List.set_cons_succ]
          refine wpAny_take (i := 24) (oi := ⟨some 83, _, _, _, _, _⟩) (v := ?_) rfl (by kernel_rfl) (by kernel_rfl) (by kernel_rfl) (fun _ _ _ h => h) (Or.inl ⟨by rfl, ?_⟩) ?_
          rotate_left
          · intro w; go_simp <;> with_reducible rfl
          simp only [Act.put, List.setIfInBounds_toArray, List.set_cons_zero, List.set_cons_succ]
          refine wpAny_ready (rs := [25]) (by kernel_rfl) (by simp) ?_
          refine AllReady.cons rfl (fun K hK => ?_) AllReady.nil
          go_simp
          refine (cW.out _ B7).mono ?_
          rintro e w8 ⟨rfl, b8⟩
          have B8 := B7.trans (b8.mono B7.size)
          first | refine hK _ _ ?_ | refine ⟨trivial, hK _ _ ?_⟩ | refine ⟨fun _ _ => trivial, hK _ _ ?_⟩
          clear hK K
          refine wpAny_take (i := 26) (oi := ⟨some 85, _, _, _, _, _⟩) (v := ?_) rfl (by kernel_rfl) (by kernel_rfl) (by kernel_rfl) (fun _ _ _ h => h) (Or.inl ⟨by rfl, ?_⟩) ?_
          rotate_left
          · intro w; go_simp <;> with_reducible rfl
          simp only [Act.put, List.setIfInBounds_toArray, List.set_cons_zero, List.set_cons_succ]
          refine wpAny_ready (rs := [27]) (by kernel_rfl) (by simp) ?_
          refine AllReady.cons rfl (fun K hK => ?_) AllReady.nil
          go_simp
          first | refine hK _ _ ?_ | refine ⟨trivial, hK _ _ ?_⟩ | refine ⟨fun _ _ => trivial, hK _ _ ?_⟩
          clear hK K
          refine wpAny_done (by kernel_rfl) ?_ _
          go_wp2
          go_ret
          exact ⟨rfl, hb ▸ B8⟩
end Go.Proofs.YtgakaomcdpgnkaaDoor
