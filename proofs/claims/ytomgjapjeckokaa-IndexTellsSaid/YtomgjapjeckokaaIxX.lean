/- The walk of slices.Insert at one entry (printed by gen_ixx.py). -/
import Derived.Test.YtomgjapjeckokaaIxW
namespace Go.Proofs.Ytomgjapjeckokaa
open Go.RowKit Go.Shelf Go.Lib

theorem grow_trans {w w1 w2 : World} {r : Option Nat} (h : w.grownBy w1 r) (k : w1.grownBy w2 r) : w.grownBy w2 r :=
  ⟨k.os.trans h.os, k.tape.trans h.tape, k.output.trans h.output, Nat.le_trans h.size k.size, fun b hb hr => (k.block b (Nat.lt_of_lt_of_le hb h.size) hr).trans (h.block b hb hr)⟩

set_option maxRecDepth 100000 in
set_option maxHeartbeats 1000000 in
/-- at the end -/
theorem insE_any (l : List Ent) (e : Ent) (L cap base g vb vc : Nat) (w : World) (ho : w.ownsRow base 48 35 (.slice (some ⟨g, 0, none⟩) L cap) L (l.flatMap encE)) (hL : L = l.length) (hb : base ≤ w.heap.size) (hv : w.heap[vb]? = some (.cells (rowE e) 48 (0, 0))) (hl : l.length ≤ 1000000) (hvc : 1 ≤ vc ∧ vc ≤ maxLen) (hke : e.key.length = 32) :
    Calls Try.prog 56 #[.slice (some ⟨g, 0, none⟩) L cap, .int .i64 L, .slice (some ⟨vb, 0, none⟩) 1 vc] w fun r w' => ∃ v', r = .returned v' ∧ w'.ownsRow base 48 35 v' (L + 1) ((l ++ [e]).flatMap encE) ∧ v' ≠ .slice none 0 0 ∧ w.grownBy w' (some g) := by
  obtain ⟨i0, z, hi, hz0, hz1, hz2, hz3⟩ := infoE_parts
  obtain ⟨hLc, hcm⟩ : L ≤ cap ∧ cap ≤ maxLen := by obtain ⟨p, c, h, h1, h2⟩ := owns_shape ho; cases h; exact ⟨h1, h2⟩
  have hLL : (L : Int) ≤ (cap : Int) := by omega
  have hsv : Sl w 35 encE (.slice (some ⟨vb, 0, none⟩) 1 vc) [e] := by
    refine Sl.mk (l := [e]) hvc.1 hvc.2 fun i x hx => ?_
    match i, hx with
    | 0, hx =>
      obtain rfl := Option.some.inj hx
      rw [Nat.zero_mul, Nat.add_zero]
      exact range_blk (cs := encE e) hv
  have he1 : ∀ x ∈ [e], (encE x).length = 35 ∧ ∀ u ∈ encE x, u.oneCell' = true := encE_enc (fun x hx => by obtain rfl := List.mem_singleton.1 hx; exact hke)
  by_cases h0 : cap = L
  · subst h0
    go_enter Try.func56, Try.ntmps56
    go_wp2_with (at_builtin; go_must (refine wpList_append_sl rfl _ _ 22 rfl base 48 i0 z 35 56 Try.underlying22 hi hz0 hz1 hz2 hz3 (by decide) _ _ _ rfl ho encE _ [e] rfl hsv he1 (by unfold maxLen; simp only [List.length_singleton]; omega) (by simp only [List.length_singleton]; omega) hb ?_; intro v1 w1 ho1 hg1 hn1))
    go_ret
    exact ⟨v1, rfl, by rw [List.flatMap_append]; exact ho1, fun e9 => by have h9 := (hn1.1 e9).1; simp [Act.eval] at h9, hg1⟩
  · go_enter Try.func56, Try.ntmps56
    go_wp2_with (at_builtin; go_must (refine wpList_append_sl rfl _ _ 22 rfl base 48 i0 z 35 56 Try.underlying22 hi hz0 hz1 hz2 hz3 (by decide) _ _ _ rfl ho encE _ [e] rfl hsv he1 (by unfold maxLen; simp only [List.length_singleton]; omega) (by simp only [List.length_singleton]; omega) hb ?_; intro v1 w1 ho1 hg1 hn1))
    go_ret
    exact ⟨v1, rfl, by rw [List.flatMap_append]; exact ho1, fun e9 => by have h9 := (hn1.1 e9).1; simp [Act.eval] at h9, hg1⟩

set_option maxRecDepth 100000 in
set_option maxHeartbeats 1000000 in
/-- in place -/
theorem insR_any (l : List Ent) (e : Ent) (i L cap g vb vc : Nat) (C : Array Value) (w : World) (hL : L = l.length) (hi : i < L) (hG : w.heap[g]? = some (.cells C 48 (0, 0))) (hcs : C.size = cap * 35) (hct : C.toList.take (L * 35) = l.flatMap encE) (hroom : L + 1 ≤ cap) (hcm : cap ≤ maxLen) (hv : w.heap[vb]? = some (.cells (rowE e) 48 (0, 0))) (hne : vb ≠ g) (hl : L ≤ 1000000) (hk : ∀ e ∈ l, e.key.length = 32) (hke : e.key.length = 32) :
    Calls Try.prog 56 #[.slice (some ⟨g, 0, none⟩) L cap, .int .i64 i, .slice (some ⟨vb, 0, none⟩) 1 vc] w fun r w' => r = .returned (.slice (some ⟨g, 0, none⟩) (L + 1) cap) ∧ w'.heap[g]? = some (.cells (spl (spl C.toList ((i + 1) * 35) ((l.flatMap encE).drop (i * 35))) (i * 35) (encE e)).toArray 48 (0, 0)) ∧ w.grownBy w' (some g) := by
  have hsz : (Try.prog.info? 48).map (·.size) = some 35 := by kernel_rfl
  obtain ⟨X, hX⟩ : ∃ X, l.flatMap encE = X := ⟨_, rfl⟩
  have hXl : X.length = L * 35 := by rw [← hX, flatE_len hk, hL]
  have hXo : ∀ v ∈ X, v.oneCell' = true := by rw [← hX]; exact fun v h => one_flatE h
  rw [hX] at hct ⊢
  clear hX hL
  have hCv : ∀ j v, X[j]? = some v → w.cell? ⟨g, j, none⟩ = some v := fun j v hj => by
    rw [← hct] at hj
    have hjl : j < L * 35 := by have := (List.getElem?_eq_some_iff.1 hj).1; simp at this; omega
    rw [List.getElem?_take_of_lt hjl] at hj
    exact cell_blk hG (by simpa using hj)
  have hi1 : (i : Int) < (L : Int) := by omega
  have hi2 : ¬ ((i : Int) = (L : Int)) := by omega
  have hi3 : (L : Int) + 1 ≤ (cap : Int) := by omega
  have hi4 : ¬ ((cap : Int) < (L : Int) + 1) := by omega
  have hw1 : IntKind.i64.wrap ((i : Int) + 1) = (i : Int) + 1 := by rw [IntKind.wrap_i64]; omega
  have hw2 : IntKind.i64.wrap ((L : Int) + 1) = (L : Int) + 1 := by rw [IntKind.wrap_i64]; omega
  have hi5 : (0 : Int) ≤ (i : Int) + 1 := by omega
  have hi6 : i ≤ L := by omega
  have hi7 : (i : Int) ≤ (L : Int) + 1 := by omega
  have hmin : Nat.min (L + 1 - i) (L - i) = L - i := by show min _ _ = _; omega
  have hXd : (X.drop (i * 35)).length = (L - i) * 35 := by rw [List.length_drop, hXl]; omega
  have hXs : ∀ j v, (X.drop (i * 35))[j]? = some v → w.drew.cell? ((⟨g, i * 35, none⟩ : Addr).add j) = some v := fun j v hj => by
    rw [Addr.add_lit]
    rw [List.getElem?_drop] at hj
    exact hCv _ _ hj
  have hfit : (i + 1) * 35 + (X.drop (i * 35)).length ≤ C.size := by rw [hXd, hcs]; omega
  have hXd1 : ∀ v ∈ X.drop (i * 35), v.oneCell' = true := fun v h => hXo v (List.mem_of_mem_drop h)
  have hci : ¬ (cap = i) := by omega
  have hci1 : ¬ (cap = i + 1) := by omega
  have htn : ((i : Int) + 1).toNat = i + 1 := by omega
  have htn2 : ((L : Int) + 1).toNat = L + 1 := by omega
  have hcap : (cap : Int) ≤ 9223372036854775807 := by unfold maxLen at hcm; omega
  have hov : ∀ lb cb, (callFunc 67 #[.slice (some ⟨vb, 0, none⟩) 1 vc, .slice (some ⟨g, (i + 1) * 35, none⟩) lb cb]).run Try.prog w = .ok (.value (.bool false)) w := fun lb cb => by
    obtain ⟨i0, z, hi0, -, hz1, -, -⟩ := infoE_parts
    rw [run_callFunc_extern Try.func67 (by kernel_rfl) (by kernel_rfl) (by kernel_rfl) (e := Extern.SlicesOverlaps.overlaps #[22, 22] #[4]) (by kernel_rfl),
      Lib.run_overlaps_apart w 22 4 48 Try.underlying22 35 (fun w => by simp [sizeOf, typeInfo, hi0, hz1]) ⟨vb, 0, none⟩ ⟨g, (i + 1) * 35, none⟩ 1 vc lb cb hne 48 48 (rowE e).size C.size (by simp [World.shape?, hv]) (by simp [World.shape?, hG]) (by rw [hcs]; omega) (by simp [World.frozen?, hv]) (by simp [World.frozen?, hv])]
    rfl
  go_enter Try.func56, Try.ntmps56
  go_upto_region 15 with (simp only [hov])
  refine wp_region_any (by kernel_rfl) ?_
  try (change wpAny _ _ _ _ _ _ _ (World.drew _))
  refine wpAny_take (i := 0) (oi := ⟨some 69, _, _, _, _, _⟩) (v := ?_) rfl (by kernel_rfl) (by kernel_rfl) (by kernel_rfl) (fun _ _ _ h => h) (Or.inl ⟨by rfl, ?_⟩) ?_
  rotate_left
  · intro w; go_simp <;> with_reducible rfl
  simp only [Act.put, List.setIfInBounds_toArray, List.set_cons_zero, List.set_cons_succ]
  refine wpAny_take (i := 1) (oi := ⟨some 70, _, _, _, _, _⟩) (v := ?_) rfl (by kernel_rfl) (by kernel_rfl) (by kernel_rfl) (fun _ _ _ h => h) (Or.inl ⟨by rfl, ?_⟩) ?_
  rotate_left
  · intro w; go_simp <;> with_reducible rfl
  simp only [Act.put, List.setIfInBounds_toArray, List.set_cons_zero, List.set_cons_succ]
  refine wpAny_take (i := 2) (oi := ⟨some 71, _, _, _, _, _⟩) (v := ?_) rfl (by kernel_rfl) (by kernel_rfl) (by kernel_rfl) (fun _ _ _ h => h) (Or.inl ⟨by rfl, ?_⟩) ?_
  rotate_left
  · intro w; go_simp <;> with_reducible rfl
  simp only [Act.put, List.setIfInBounds_toArray, List.set_cons_zero, List.set_cons_succ]
  refine wpAny_take (i := 3) (oi := ⟨some 72, _, _, _, _, _⟩) (v := ?_) rfl (by kernel_rfl) (by kernel_rfl) (by kernel_rfl) (fun _ _ _ h => h) (Or.inl ⟨by rfl, ?_⟩) ?_
  rotate_left
  · intro w; go_simp <;> with_reducible rfl
  simp only [Act.put, List.setIfInBounds_toArray, List.set_cons_zero, List.set_cons_succ]
  refine wpAny_take (i := 4) (oi := ⟨some 73, _, _, _, _, _⟩) (v := ?_) rfl (by kernel_rfl) (by kernel_rfl) (by kernel_rfl) (fun _ _ _ h => h) (Or.inl ⟨by rfl, ?_⟩) ?_
  rotate_left
  · intro w; go_simp <;> with_reducible rfl
  simp only [Act.put, List.setIfInBounds_toArray, List.set_cons_zero, List.set_cons_succ]
  refine wpAny_take (i := 5) (oi := ⟨some 74, _, _, _, _, _⟩) (v := ?_) rfl (by kernel_rfl) (by kernel_rfl) (by kernel_rfl) (fun _ _ _ h => h) (Or.inl ⟨by rfl, ?_⟩) ?_
  rotate_left
  · intro w; go_simp <;> with_reducible rfl
  simp only [Act.put, List.setIfInBounds_toArray, List.set_cons_zero, List.set_cons_succ]
  refine wpAny_take (i := 6) (oi := ⟨some 75, _, _, _, _, _⟩) (v := ?_) rfl (by kernel_rfl) (by kernel_rfl) (by kernel_rfl) (fun _ _ _ h => h) (Or.inl ⟨by rfl, ?_⟩) ?_
  rotate_left
  · intro w; go_simp <;> with_reducible rfl
  simp only [Act.put, List.setIfInBounds_toArray, List.set_cons_zero, List.set_cons_succ]
  refine wpAny_take (i := 7) (oi := ⟨some 76, _, _, _, _, _⟩) (v := ?_) rfl (by kernel_rfl) (by kernel_rfl) (by kernel_rfl) (fun _ _ _ h => h) (Or.inl ⟨by rfl, ?_⟩) ?_
  rotate_left
  · intro w; go_simp <;> with_reducible rfl
  simp only [Act.put, List.setIfInBounds_toArray, List.set_cons_zero, List.set_cons_succ]
  refine wpAny_ready (rs := [8]) (by kernel_rfl) (by simp) ?_
  refine BigFrame.allReady_want rfl (by rfl) (fun K hK => ?_) AllReady.nil
  refine wp_copy_rowk _ _ 22 22 48 rfl 35 Try.underlying22 hsz g ((i + 1) * 35) (L - i) _ ⟨g, i * 35, none⟩ (L + 1 - i) _ rfl rfl C _ (X.drop (i * 35)) (L - i) hG hmin hXd hXs hfit hXd1 (fun w1 hG1 hg1 => hK _ _ ?_)
  clear hK K
  refine wpAny_done (by kernel_rfl) ?_ _
  have hG1' : w1.heap[g]? = some (.cells (spl C.toList ((i + 1) * 35) (X.drop (i * 35))).toArray 48 (0, 0)) := hG1
  have hv1 : w1.heap[vb]? = some (.cells (rowE e) 48 (0, 0)) := (hg1.block vb (Array.getElem?_eq_some_iff.1 hv).1 (by simpa using hne)).trans hv
  have hgd : w.grownBy w1 (some g) := ⟨hg1.os, hg1.tape, hg1.output, hg1.size, hg1.block⟩
  have hE1 : ∀ j v, (encE e)[j]? = some v → w1.cell? ((⟨vb, 0, none⟩ : Addr).add j) = some v := fun j v hj => by rw [Addr.add_lit, Nat.zero_add]; exact cell_blk hv1 (by simpa [rowE] using hj)
  have hEl : (encE e).length = 1 * 35 := by rw [encE_len, hke]
  have hC1l := spl_len (L := C.toList) (o := (i + 1) * 35) (cs := X.drop (i * 35)) (by simpa using hfit)
  clear hov hXs hCv hG1 hg1
  obtain ⟨C1, hC1⟩ : ∃ C1, spl C.toList ((i + 1) * 35) (X.drop (i * 35)) = C1 := ⟨_, rfl⟩
  rw [hC1] at hG1' hC1l
  have hfit1 : i * 35 + (encE e).length ≤ C1.toArray.size := by rw [hEl, List.size_toArray, hC1l, Array.length_toList, hcs]; omega
  have hmin1 : Nat.min 1 (L + 1 - i) = 1 := by show min _ _ = _; omega
  go_wp2_with (refine wpList_copy_rowk rfl _ _ 22 22 48 rfl 35 Try.underlying22 hsz g (i * 35) (L + 1 - i) _ ⟨vb, 0, none⟩ 1 _ rfl rfl C1.toArray _ (encE e) 1 hG1' hmin1 hEl hE1 hfit1 (fun v h => one_encE h) (fun w2 hG2 hg2 => ?_))
  go_ret
  exact ⟨rfl, hG2, grow_trans hgd hg2⟩

theorem grow_fresh {w w1 w2 w3 : World} {g N : Nat} (hN : N = w.heap.size) (h : w.grownBy w1 (some g)) (k : w1.grownBy w2 (some N)) (m : w2.grownBy w3 (some N)) : w.grownBy w3 (some g) :=
  ⟨m.os.trans (k.os.trans h.os), m.tape.trans (k.tape.trans h.tape), m.output.trans (k.output.trans h.output), Nat.le_trans h.size (Nat.le_trans k.size m.size), fun b hb hr => by
    have hbN : some b ≠ some N := by simp; omega
    exact (m.block b (Nat.lt_of_lt_of_le hb (Nat.le_trans h.size k.size)) hbN).trans ((k.block b (Nat.lt_of_lt_of_le hb h.size) hbN).trans (h.block b hb hr))⟩

set_option maxRecDepth 100000 in
set_option maxHeartbeats 1000000 in
/-- into a new row -/
theorem insG_any (l : List Ent) (e : Ent) (i L cap g vb vc : Nat) (C : Array Value) (w : World) (hL : L = l.length) (hi : i < L) (hG : w.heap[g]? = some (.cells C 48 (0, 0))) (hct : C.toList.take (L * 35) = l.flatMap encE) (hLc : L ≤ cap) (hroom : cap < L + 1) (hv : w.heap[vb]? = some (.cells (rowE e) 48 (0, 0))) (hl : L ≤ 1000000) (hk : ∀ e ∈ l, e.key.length = 32) (hke : e.key.length = 32) :
    Calls Try.prog 56 #[.slice (some ⟨g, 0, none⟩) L cap, .int .i64 i, .slice (some ⟨vb, 0, none⟩) 1 vc] w fun r w' => ∃ (G : Nat) (R : List Value), r = .returned (.slice (some ⟨w.heap.size, 0, none⟩) (L + 1) G) ∧ w'.heap[w.heap.size]? = some (.cells (spl (spl R (i * 35) (encE e)) ((i + 1) * 35) ((l.flatMap encE).drop (i * 35))).toArray 48 (0, 0)) ∧ L + 1 ≤ G ∧ G ≤ maxLen ∧ R.length = G * 35 ∧ R.take (i * 35) = (l.flatMap encE).take (i * 35) ∧ w.grownBy w' (some g) := by
  have hsz : (Try.prog.info? 48).map (·.size) = some 35 := by kernel_rfl
  obtain ⟨X, hX⟩ : ∃ X, l.flatMap encE = X := ⟨_, rfl⟩
  have hXl : X.length = L * 35 := by rw [← hX, flatE_len hk, hL]
  have hXo : ∀ v ∈ X, v.oneCell' = true := by rw [← hX]; exact fun v h => one_flatE h
  rw [hX] at hct ⊢
  clear hX hL
  have hCv : ∀ j v, X[j]? = some v → w.cell? ⟨g, j, none⟩ = some v := fun j v hj => by
    rw [← hct] at hj
    have hjl : j < L * 35 := by have := (List.getElem?_eq_some_iff.1 hj).1; simp at this; omega
    rw [List.getElem?_take_of_lt hjl] at hj
    exact cell_blk hG (by simpa using hj)
  obtain ⟨N, hN0⟩ : ∃ N, N = w.heap.size := ⟨_, rfl⟩
  have hgw : g < w.heap.size := (Array.getElem?_eq_some_iff.1 hG).1
  have hvw : vb < w.heap.size := (Array.getElem?_eq_some_iff.1 hv).1
  have hi1 : (i : Int) < (L : Int) := by omega
  have hi2 : ¬ ((i : Int) = (L : Int)) := by omega
  have hi4 : (cap : Int) < (L : Int) + 1 := by omega
  have hw1 : IntKind.i64.wrap ((i : Int) + 1) = (i : Int) + 1 := by rw [IntKind.wrap_i64]; omega
  have hw2 : IntKind.i64.wrap ((L : Int) + 1) = (L : Int) + 1 := by rw [IntKind.wrap_i64]; omega
  have hkk : (L : Int) + 1 - (i : Int) = ((L + 1 - i : Nat) : Int) := by omega
  have hik : i + (L + 1 - i) = L + 1 := by omega
  have hi5 : (0 : Int) ≤ (i : Int) + 1 := by omega
  have hi6 : i ≤ L := by omega
  have hi7 : (i : Int) ≤ (L : Int) + 1 := by omega
  have hcl : (i : Int) ≤ (cap : Int) := by omega
  have hci : ¬ (cap = i) := by omega
  have htn : ((i : Int) + 1).toNat = i + 1 := by omega
  have htn2 : ((L : Int) + 1).toNat = L + 1 := by omega
  obtain ⟨i0, z, hi0, hz0, hz1, hz2, hz3⟩ := infoE_parts
  have hold : (Builtin.firstCells i0.size i (.slice (some ⟨g, 0, none⟩) i cap)).run Try.prog w.drew = .ok (X.take (i * 35)).toArray w.drew := by
    rw [hz1]
    exact run_firstCells_some w.drew 35 i ⟨g, 0, none⟩ i cap (X.take (i * 35)) (by rw [List.length_take, hXl]; omega) (fun j v hj => by
      rw [Addr.add_lit, Nat.zero_add]
      rw [List.getElem?_take] at hj
      split at hj
      · exact hCv j v hj
      · cases hj)
  have hrz : ∀ ty, (Builtin.append_ #[22, 3] ty #[.slice (some ⟨g, 0, none⟩) i cap, .int .i64 ((L + 1 - i : Nat) : Int)]).run Try.prog w =
      .ok (.slice (some ⟨w.heap.size, 0, none⟩) (L + 1) (grownCap w (L + 1) cap 48)) (w.drew.alloc (.cells ((X.take (i * 35)).toArray ++ Builtin.zeroCells z.cells (L + 1 - i) ++ Builtin.zeroCells z.cells (grownCap w (L + 1) cap 48 - (L + 1))) 48)) := fun ty => by
    have h := Lib.run_append_grow_zeros w 22 3 ty 48 i0 z .i64 .i64 Try.underlying22 Try.underlying3 hi0 hz0 (some ⟨g, 0, none⟩) i cap (X.take (i * 35)) hold (L + 1 - i) (by omega) (by omega) (by omega) (by omega) (by rw [hz2]; omega) (by rw [hz2, hik]; exact growslice_fits hroom (by omega))
    rw [hik] at h
    exact h
  obtain ⟨G, hGG⟩ : ∃ G, grownCap w (L + 1) cap 48 = G := ⟨_, rfl⟩
  have hG1 : L + 1 ≤ G := by rw [← hGG]; exact grownCap_ge w _ _ _
  have hG2 : G ≤ maxLen := by rw [← hGG]; exact grownCap_le_maxLen w (L + 1) cap 48 (by unfold maxLen; omega)
  rw [hGG] at hrz
  obtain ⟨R, hR⟩ : ∃ R : List Value, R = ((X.take (i * 35)).toArray ++ Builtin.zeroCells z.cells (L + 1 - i) ++ Builtin.zeroCells z.cells (G - (L + 1))).toList := ⟨_, rfl⟩
  have hRa : (X.take (i * 35)).toArray ++ Builtin.zeroCells z.cells (L + 1 - i) ++ Builtin.zeroCells z.cells (G - (L + 1)) = R.toArray := by rw [hR, Array.toArray_toList]
  have hRl : R.length = G * 35 := by
    rw [hR]
    simp only [Array.length_toList, Array.size_append, List.size_toArray, size_zeroCells, hz3, List.length_take, hXl]
    omega
  have hRt : R.take (i * 35) = X.take (i * 35) := by
    rw [hR]
    simp only [Array.toList_append, List.append_assoc]
    rw [List.take_append_of_le_length (by rw [List.length_take, hXl]; omega), List.take_take, Nat.min_self]
  rw [hRa] at hrz
  clear hRa hR hold hGG
  obtain ⟨W1, hW1⟩ : ∃ W1, W1 = w.drew.alloc (.cells R.toArray 48) := ⟨_, rfl⟩
  have hGN : W1.heap[N]? = some (.cells R.toArray 48 (0, 0)) := by rw [hW1, hN0]; exact World.alloc_heap_new w.drew _
  have hga : w.grownBy W1 (some g) := by rw [hW1]; exact ⟨rfl, rfl, rfl, by simp, fun k hk _ => heap_alloc_old w.drew _ hk⟩
  have hkW : Kept 0 w W1 := by rw [hW1]; exact (Kept.drewN 0 w 1).trans (Kept.alloc 0 _ _)
  have hCv1 : ∀ j v, X[j]? = some v → W1.cell? ⟨g, j, none⟩ = some v := fun j v h => hkW.cell (hCv j v h)
  have hgN : g ≠ N := by omega
  have hvN : vb ≠ N := by omega
  have hE1 : ∀ j v, (encE e)[j]? = some v → W1.cell? ((⟨vb, 0, none⟩ : Addr).add j) = some v := fun j v hj => by rw [Addr.add_lit, Nat.zero_add]; exact hkW.cell (cell_blk hv (by simpa [rowE] using hj))
  have hEl : (encE e).length = 1 * 35 := by rw [encE_len, hke]
  have hEl' : (encE e).length = 35 := by rw [encE_len, hke]
  have hfit1 : i * 35 + (encE e).length ≤ R.toArray.size := by rw [hEl, List.size_toArray, hRl]; omega
  have hmin1 : Nat.min 1 (L + 1 - i) = 1 := by show min _ _ = _; omega
  have hmin : Nat.min (L - i) (L - i) = L - i := by show min _ _ = _; omega
  have hXd : (X.drop (i * 35)).length = (L - i) * 35 := by rw [List.length_drop, hXl]; omega
  have hXd1 : ∀ v ∈ X.drop (i * 35), v.oneCell' = true := fun v h => hXo v (List.mem_of_mem_drop h)
  have hGi : ¬ (G = i) := by omega
  have hGi1 : ¬ (G = i + 1) := by omega
  have hGm : (G : Int) ≤ 9223372036854775807 := by unfold maxLen at hG2; omega
  rw [← hW1, ← hN0] at hrz
  suffices hS : Calls Try.prog 56 #[.slice (some ⟨g, 0, none⟩) L cap, .int .i64 i, .slice (some ⟨vb, 0, none⟩) 1 vc] w fun r w' => r = .returned (.slice (some ⟨N, 0, none⟩) (L + 1) G) ∧ w'.heap[N]? = some (.cells (spl (spl R (i * 35) (encE e)) ((i + 1) * 35) (X.drop (i * 35))).toArray 48 (0, 0)) ∧ w.grownBy w' (some g) by
    refine hS.mono ?_
    rintro r w' ⟨h1, h2, h3⟩
    rw [← hN0]
    exact ⟨G, R, h1, h2, hG1, hG2, hRl, hRt, h3⟩
  clear hW1 hct hz0 hz1 hz2 hz3 hi0 hCv
  replace hN0 := hid hN0
  go_enter Try.func56, Try.ntmps56
  go_upto_region 10 with (at_builtin; refine Lib.wpList_append_run _ rfl _ _ 22 3 rfl _ _ rfl rfl _ _ (hrz _) ?_)
  go_upto_region 11 with (refine wpList_copy_rowk rfl _ _ 22 22 48 rfl 35 Try.underlying22 hsz N (i * 35) (L + 1 - i) _ ⟨vb, 0, none⟩ 1 _ rfl rfl R.toArray _ (encE e) 1 hGN hmin1 hEl hE1 hfit1 (fun v h => one_encE h) (fun w2 hH2 hg2 => ?_))
  have hG2' : w2.heap[N]? = some (.cells (spl R (i * 35) (encE e)).toArray 48 (0, 0)) := hH2
  have hXs : ∀ j v, (X.drop (i * 35))[j]? = some v → w2.drew.cell? ((⟨g, i * 35, none⟩ : Addr).add j) = some v := fun j v hj => by
    rw [Addr.add_lit]
    rw [List.getElem?_drop] at hj
    exact hg2.cell (hCv1 _ _ hj) (by simpa using hgN)
  have hC1l := spl_len (L := R) (o := i * 35) (cs := encE e) (by simpa using hfit1)
  obtain ⟨C1, hC1⟩ : ∃ C1, spl R (i * 35) (encE e) = C1 := ⟨_, rfl⟩
  rw [hC1] at hG2' hC1l
  have hfit : (i + 1) * 35 + (X.drop (i * 35)).length ≤ C1.toArray.size := by rw [hXd, List.size_toArray, hC1l, hRl]; omega
  clear hH2 hCv1 hE1
  refine wp_region_any (by kernel_rfl) ?_
  try (change wpAny _ _ _ _ _ _ _ (World.drew _))
  refine wpAny_take (i := 0) (oi := ⟨some 46, _, _, _, _, _⟩) (v := ?_) rfl (by kernel_rfl) (by kernel_rfl) (by kernel_rfl) (fun _ _ _ h => h) (Or.inl ⟨by rfl, ?_⟩) ?_
  rotate_left
  · intro w; go_simp <;> with_reducible rfl
  simp only [Act.put, List.setIfInBounds_toArray, List.set_cons_zero, List.set_cons_succ]
  refine wpAny_take (i := 1) (oi := ⟨some 47, _, _, _, _, _⟩) (v := ?_) rfl (by kernel_rfl) (by kernel_rfl) (by kernel_rfl) (fun _ _ _ h => h) (Or.inl ⟨by rfl, ?_⟩) ?_
  rotate_left
  · intro w; go_simp <;> with_reducible rfl
  simp only [Act.put, List.setIfInBounds_toArray, List.set_cons_zero, List.set_cons_succ]
  refine wpAny_take (i := 2) (oi := ⟨some 48, _, _, _, _, _⟩) (v := ?_) rfl (by kernel_rfl) (by kernel_rfl) (by kernel_rfl) (fun _ _ _ h => h) (Or.inl ⟨by rfl, ?_⟩) ?_
  rotate_left
  · intro w; go_simp <;> with_reducible rfl
  simp only [Act.put, List.setIfInBounds_toArray, List.set_cons_zero, List.set_cons_succ]
  refine wpAny_take (i := 3) (oi := ⟨some 49, _, _, _, _, _⟩) (v := ?_) rfl (by kernel_rfl) (by kernel_rfl) (by kernel_rfl) (fun _ _ _ h => h) (Or.inl ⟨by rfl, ?_⟩) ?_
  rotate_left
  · intro w; go_simp <;> with_reducible rfl
  simp only [Act.put, List.setIfInBounds_toArray, List.set_cons_zero, List.set_cons_succ]
  refine wpAny_take (i := 4) (oi := ⟨some 50, _, _, _, _, _⟩) (v := ?_) rfl (by kernel_rfl) (by kernel_rfl) (by kernel_rfl) (fun _ _ _ h => h) (Or.inl ⟨by rfl, ?_⟩) ?_
  rotate_left
  · intro w; go_simp <;> with_reducible rfl
  simp only [Act.put, List.setIfInBounds_toArray, List.set_cons_zero, List.set_cons_succ]
  refine wpAny_take (i := 5) (oi := ⟨some 51, _, _, _, _, _⟩) (v := ?_) rfl (by kernel_rfl) (by kernel_rfl) (by kernel_rfl) (fun _ _ _ h => h) (Or.inl ⟨by rfl, ?_⟩) ?_
  rotate_left
  · intro w; go_simp <;> with_reducible rfl
  simp only [Act.put, List.setIfInBounds_toArray, List.set_cons_zero, List.set_cons_succ]
  refine wpAny_take (i := 6) (oi := ⟨some 52, _, _, _, _, _⟩) (v := ?_) rfl (by kernel_rfl) (by kernel_rfl) (by kernel_rfl) (fun _ _ _ h => h) (Or.inl ⟨by rfl, ?_⟩) ?_
  rotate_left
  · intro w; go_simp <;> with_reducible rfl
  simp only [Act.put, List.setIfInBounds_toArray, List.set_cons_zero, List.set_cons_succ]
  refine wpAny_take (i := 7) (oi := ⟨some 53, _, _, _, _, _⟩) (v := ?_) rfl (by kernel_rfl) (by kernel_rfl) (by kernel_rfl) (fun _ _ _ h => h) (Or.inl ⟨by rfl, ?_⟩) ?_
  rotate_left
  · intro w; go_simp <;> with_reducible rfl
  simp only [Act.put, List.setIfInBounds_toArray, List.set_cons_zero, List.set_cons_succ]
  refine wpAny_ready (rs := [8]) (by kernel_rfl) (by simp) ?_
  refine BigFrame.allReady_want rfl (by rfl) (fun K hK => ?_) AllReady.nil
  refine wp_copy_rowk _ _ 22 22 48 rfl 35 Try.underlying22 hsz N ((i + 1) * 35) (L - i) _ ⟨g, i * 35, none⟩ (L - i) _ rfl rfl C1.toArray _ (X.drop (i * 35)) (L - i) hG2' hmin hXd hXs hfit hXd1 (fun w3 hG3 hg3 => hK _ _ ?_)
  clear hK K
  refine wpAny_done (by kernel_rfl) ?_ _
  have hg3' : w2.grownBy w3 (some N) := ⟨hg3.os, hg3.tape, hg3.output, hg3.size, hg3.block⟩
  go_wp2
  go_ret
  exact ⟨rfl, hG3, grow_fresh hN0.out hga hg2 hg3'⟩

/-- an entry laid in -/
theorem ins_any (l : List Ent) (e : Ent) (i L cap base g vb vc : Nat) (w : World) (ho : w.ownsRow base 48 35 (.slice (some ⟨g, 0, none⟩) L cap) L (l.flatMap encE)) (hL : L = l.length) (hi : i ≤ L) (hb : base ≤ w.heap.size) (hv : w.heap[vb]? = some (.cells (rowE e) 48 (0, 0))) (hne : vb ≠ g) (hl : l.length ≤ 1000000) (hvc : 1 ≤ vc ∧ vc ≤ maxLen) (hk : ∀ e ∈ l, e.key.length = 32) (hke : e.key.length = 32) :
    Calls Try.prog 56 #[.slice (some ⟨g, 0, none⟩) L cap, .int .i64 i, .slice (some ⟨vb, 0, none⟩) 1 vc] w fun r w' => ∃ v', r = .returned v' ∧ w'.ownsRow base 48 35 v' (L + 1) ((l.take i ++ [e] ++ l.drop i).flatMap encE) ∧ v' ≠ .slice none 0 0 ∧ w.grownBy w' (some g) := by
  by_cases hiL : i = L
  · subst hiL
    rw [List.take_of_length_le (by omega), List.drop_of_length_le (by omega), List.append_nil]
    exact insE_any l e i cap base g vb vc w ho hL hb hv hl hvc hke
  · obtain ⟨hxl, hc⟩ := ho
    rcases hc with ⟨h1, -⟩ | ⟨g', cap', cur, h1, hgb, hG, hLc, hcm, hsz, ht⟩
    · cases h1
    · simp only [Value.slice.injEq, Option.some.injEq, Addr.mk.injEq, and_true, true_and] at h1
      obtain ⟨rfl, rfl⟩ := h1
      have hXl : (l.flatMap encE).length = L * 35 := by rw [flatE_len hk, hL]
      have hEl : (encE e).length = 35 := by rw [encE_len, hke]
      have hfin : (l.flatMap encE).take (i * 35) ++ encE e ++ (l.flatMap encE).drop (i * 35) = (l.take i ++ [e] ++ l.drop i).flatMap encE := by
        rw [flatE_take hk i (by omega), flatE_drop hk i (by omega)]; simp
      have hlen : ((l.take i ++ [e] ++ l.drop i).flatMap encE).length = (L + 1) * 35 := by
        rw [← hfin]; simp only [List.length_append, List.length_take, List.length_drop, hXl, hEl]; omega
      by_cases hroom : L + 1 ≤ cap
      · refine (insR_any l e i L cap g vb vc cur w hL (by omega) hG hsz ht hroom hcm hv hne (by omega) hk hke).mono ?_
        rintro r w' ⟨rfl, hG', hg'⟩
        have hsp := spl_shift (C := cur.toList) (X := l.flatMap encE) (E := encE e) (o := i * 35) (by rw [hXl]; omega) (by rw [hXl]; exact ht) (by rw [hXl, hEl, Array.length_toList, hsz]; omega)
        rw [hEl, show i * 35 + 35 = (i + 1) * 35 by omega] at hsp
        refine ⟨_, rfl, ⟨hlen, .inr ⟨g, cap, _, rfl, hgb, hG', hroom, hcm, ?_, ?_⟩⟩, by simp, hg'⟩
        · rw [List.size_toArray, spl_len (by rw [hEl, spl_len (by rw [List.length_drop, hXl, Array.length_toList, hsz]; omega), Array.length_toList, hsz]; omega), spl_len (by rw [List.length_drop, hXl, Array.length_toList, hsz]; omega), Array.length_toList, hsz]
        · rw [← hfin, ← hsp, hXl, show (L + 1) * 35 = L * 35 + 35 by omega]
      · refine (insG_any l e i L cap g vb vc cur w hL (by omega) hG ht hLc (by omega) hv (by omega) hk hke).mono ?_
        rintro r w' ⟨G, R, rfl, hG', hG1, hG2, hRl, hRt, hg'⟩
        have hsp := spl_new (C := R) (X := l.flatMap encE) (E := encE e) (o := i * 35) (by rw [hXl]; omega) hRt (by rw [hXl, hEl, hRl]; omega)
        rw [hEl, show i * 35 + 35 = (i + 1) * 35 by omega] at hsp
        refine ⟨_, rfl, ⟨hlen, .inr ⟨w.heap.size, G, _, rfl, hb, hG', hG1, hG2, ?_, ?_⟩⟩, by simp, hg'⟩
        · rw [List.size_toArray, spl_len (by rw [List.length_drop, hXl, spl_len (by rw [hEl, hRl]; omega), hRl]; omega), spl_len (by rw [hEl, hRl]; omega), hRl]
        · rw [← hfin, ← hsp, hXl, show (L + 1) * 35 = L * 35 + 35 by omega]
end Go.Proofs.Ytomgjapjeckokaa
