/- The walk of slices.Delete of one entry (printed by gen_iyb.py). -/
import Derived.Test.YtomgjapjeckokaaIxX
namespace Go.Proofs.Ytomgjapjeckokaa
open Go.RowKit Go.Shelf Go.Lib

section
variable {P : Program}
theorem run_clear_rowk (w : World) (t e ty : TypeId) (i : TypeInfo) (z : Value) (ht : P.underlying t = some (.slice e)) (hi : P.info? e = some i) (hz : i.zero = some z) (g o n c : Nat) (hn : 0 < n) (cur : Array Value) (ct : TypeId)
    (hg : w.heap[g]? = some (.cells cur ct (0, 0))) (hfit : o + (Builtin.zeroCells z.cells n).size ≤ cur.size) (h1 : ∀ v ∈ (Builtin.zeroCells z.cells n).toList, v.oneCell' = true) :
    (Builtin.clear_ #[t] ty #[.slice (some ⟨g, o, none⟩) n c]).run P w = .ok (.tuple #[]) (w.setRow g (spl cur.toList o (Builtin.zeroCells z.cells n).toList).toArray) := by
  have hst := run_storeCells_at P g o ct (Builtin.zeroCells z.cells n).toList 0 cur w hg (by simpa using hfit) h1
  obtain ⟨m, rfl⟩ : ∃ m, n = m + 1 := ⟨n - 1, by omega⟩
  simp only [Nat.add_zero] at hst
  simp [Builtin.clear_, run_underlying ht, zeroValue, typeInfo, hi, hz, hst, spl]
end
theorem spl_take {L cs : List Value} {o : Nat} (h : o ≤ L.length) : (spl L o cs).take o = L.take o := by
  unfold spl
  rw [List.append_assoc, List.take_append_of_le_length (by simp; omega), List.take_take, Nat.min_self]
theorem spl_take2 {L cs : List Value} {o : Nat} (h : o ≤ L.length) : (spl L o cs).take (o + cs.length) = L.take o ++ cs := by
  unfold spl
  have hl : (L.take o ++ cs).length = o + cs.length := by simp; omega
  rw [← hl]
  exact List.take_left

set_option maxRecDepth 100000 in
set_option maxHeartbeats 1000000 in
theorem del_any (l : List Ent) (i L cap base g : Nat) (w : World) (ho : w.ownsRow base 48 35 (.slice (some ⟨g, 0, none⟩) L cap) L (l.flatMap encE)) (hL : L = l.length) (hi : i < L) (hl : L ≤ 1000000) (hk : ∀ e ∈ l, e.key.length = 32) :
    Calls Try.prog 58 #[.slice (some ⟨g, 0, none⟩) L cap, .int .i64 i, .int .i64 ((i + 1 : Nat) : Int)] w fun r w' => r = .returned (.slice (some ⟨g, 0, none⟩) (L - 1) cap) ∧ w'.ownsRow base 48 35 (.slice (some ⟨g, 0, none⟩) (L - 1) cap) (L - 1) ((l.take i ++ l.drop (i + 1)).flatMap encE) ∧ w.grownBy w' (some g) := by
  obtain ⟨i0, z, hi0, hz0, hz1, hz2, hz3⟩ := infoE_parts
  obtain ⟨hxl, hc⟩ := ho
  rcases hc with ⟨h1, -⟩ | ⟨g', cap', cur, h1, hgb, hG, hLc, hcm, hcs, hct⟩
  · cases h1
  simp only [Value.slice.injEq, Option.some.injEq, Addr.mk.injEq, and_true, true_and] at h1
  obtain ⟨rfl, rfl⟩ := h1
  obtain ⟨X, hX⟩ : ∃ X, l.flatMap encE = X := ⟨_, rfl⟩
  have hXl : X.length = L * 35 := by rw [← hX, flatE_len hk, hL]
  have hXo : ∀ v ∈ X, v.oneCell' = true := by rw [← hX]; exact fun v h => one_flatE h
  have hYl : X.take (i * 35) ++ X.drop ((i + 1) * 35) = (l.take i ++ l.drop (i + 1)).flatMap encE := by rw [← hX, flatE_take hk i (by omega), flatE_drop hk (i + 1) (by omega)]; simp
  rw [hX] at hct
  clear hX hxl
  have hCv : ∀ j v, X[j]? = some v → w.drew.cell? ⟨g, j, none⟩ = some v := fun j v hj => by
    rw [← hct] at hj
    have hjl : j < L * 35 := by have := (List.getElem?_eq_some_iff.1 hj).1; simp at this; omega
    rw [List.getElem?_take_of_lt hjl] at hj
    exact cell_blk (w := w.drew) (show w.drew.heap[g]? = _ from hG) (by simpa using hj)
  obtain ⟨J, hJ⟩ : ∃ J, i + 1 = J := ⟨_, rfl⟩
  rw [hJ] at hYl
  have hDl : (X.drop (J * 35)).length = (L - J) * 35 := by rw [List.length_drop, hXl]; omega
  obtain ⟨R1, hR1⟩ : ∃ R, spl cur.toList (i * 35) (X.drop (J * 35)) = R := ⟨_, rfl⟩
  have hR1l : R1.length = cap * 35 := by rw [← hR1, spl_len (by rw [hDl, Array.length_toList, hcs]; omega), Array.length_toList, hcs]
  have hra : ∀ (ty : TypeId) (c ad : Nat), (ad = J * 35 ∨ L = J) → (Builtin.append_ #[22, 22] ty #[.slice (some ⟨g, 0, none⟩) i cap, .slice (some ⟨g, ad, none⟩) (L - J) c]).run Try.prog w.drew = .ok (.slice (some ⟨g, 0, none⟩) (i + (L - J)) cap) (w.drew.setRow g R1.toArray) := fun ty c ad had => by
    have h := run_append_room (P := Try.prog) w.drew 22 ty 48 i0 Try.underlying22 hi0 g i cap cur hG ⟨g, ad, none⟩ (L - J) c (X.drop (J * 35)) (by rw [hDl, hz1]) (fun j u hu => by
      have hjl := (List.getElem?_eq_some_iff.1 hu).1
      rw [hDl] at hjl
      obtain rfl : ad = J * 35 := by rcases had with h | h <;> omega
      rw [Addr.add_lit]
      rw [List.getElem?_drop] at hu
      exact hCv _ _ hu) (fun u hu => hXo u (List.mem_of_mem_drop hu)) (by omega) (by rw [hDl, hz1, hcs]; omega)
    rw [hz1] at h
    rw [h, ← hR1]
    rfl
  have hiL : i + (L - J) = L - 1 := by omega
  rw [hiL] at hra
  obtain ⟨W1, hW1⟩ : ∃ W1, W1 = w.drew.setRow g R1.toArray := ⟨_, rfl⟩
  rw [← hW1] at hra
  have hG1 : W1.heap[g]? = some (.cells R1.toArray 48 (0, 0)) := by rw [hW1]; exact setRow_heap w.drew g cur _ _ _ hG
  have hzl : (Builtin.zeroCells z.cells 1).size = 35 := by rw [size_zeroCells, hz3]
  have hz1c : ∀ v ∈ (Builtin.zeroCells z.cells 1).toList, v.oneCell' = true := by
    have h : (Try.prog.info? 48).map (fun i => i.zero.map fun z => (Builtin.zeroCells z.cells 1).toList.all (·.oneCell')) = some (some true) := by kernel_rfl
    rw [hi0, Option.map_some, hz0, Option.map_some] at h
    have h2 := Option.some.inj (Option.some.inj h)
    intro v hv
    exact List.all_eq_true.1 h2 v hv
  have hclr : ∀ (ty : TypeId) (c : Nat), (Builtin.clear_ #[22] ty #[.slice (some ⟨g, (L - 1) * 35, none⟩) 1 c]).run Try.prog W1 = .ok (.tuple #[]) (W1.setRow g (spl R1 ((L - 1) * 35) (Builtin.zeroCells z.cells 1).toList).toArray) := fun ty c => by
    have h := run_clear_rowk (P := Try.prog) W1 22 48 ty i0 z Try.underlying22 hi0 hz0 g ((L - 1) * 35) 1 c (by decide) R1.toArray 48 hG1 (by rw [hzl, List.size_toArray, hR1l]; omega) hz1c
    exact h
  obtain ⟨W2, hW2⟩ : ∃ W2, W2 = W1.setRow g (spl R1 ((L - 1) * 35) (Builtin.zeroCells z.cells 1).toList).toArray := ⟨_, rfl⟩
  have hG2 : W2.heap[g]? = some (.cells (spl R1 ((L - 1) * 35) (Builtin.zeroCells z.cells 1).toList).toArray 48 (0, 0)) := by rw [hW2]; exact setRow_heap W1 g R1.toArray _ _ _ hG1
  rw [← hW2] at hclr
  have hgr : w.grownBy W2 (some g) := by
    rw [hW2, hW1]
    refine ⟨rfl, rfl, rfl, by simp [World.setRow], fun k _ hk => ?_⟩
    have hkg : k ≠ g := fun e => hk (by rw [e])
    exact (setRow_other _ g k _ (by omega)).trans (setRow_other w.drew g k _ (by omega))
  have hfin : Ending.returned (.slice (some ⟨g, 0, none⟩) (L - 1) cap) = .returned (.slice (some ⟨g, 0, none⟩) (L - 1) cap) ∧ W2.ownsRow base 48 35 (.slice (some ⟨g, 0, none⟩) (L - 1) cap) (L - 1) ((l.take i ++ l.drop J).flatMap encE) ∧ w.grownBy W2 (some g) := by
    refine ⟨rfl, ⟨?_, .inr ⟨g, cap, _, rfl, hgb, hG2, by omega, hcm, ?_, ?_⟩⟩, hgr⟩
    · rw [← hYl, List.length_append, hDl, List.length_take, hXl]; omega
    · rw [List.size_toArray, spl_len (by rw [Array.length_toList, hzl, hR1l]; omega), hR1l]
    · show (spl R1 ((L - 1) * 35) _).take ((L - 1) * 35) = _
      rw [spl_take (by rw [hR1l]; omega), ← hYl, ← hR1, show (L - 1) * 35 = i * 35 + (X.drop (J * 35)).length by rw [hDl]; omega, spl_take2 (by rw [Array.length_toList, hcs]; omega)]
      congr 1
      rw [← hct, List.take_take, Nat.min_eq_left (by omega)]
  clear hG2 hgr hW2 hW1 hG1 hR1 hDl hYl hct hCv hz1c hzl hXl hXo hi0 hz0 hz1 hz2 hz3 hR1l
  replace hfin := hid hfin
  have hi1 : (i : Int) ≤ (J : Int) := by omega
  have hi2 : ¬ ((i : Int) = (J : Int)) := by omega
  have hi3 : (J : Int) ≤ (L : Int) := by omega
  have hi4 : (L : Int) ≤ (cap : Int) := by omega
  have hi5 : (i : Int) ≤ (cap : Int) := by omega
  have hi6 : ((L - 1 : Nat) : Int) ≤ (L : Int) := by omega
  have hi7 : ((L - 1 : Nat) : Int) ≤ (cap : Int) := by omega
  have hi8 : L - (L - 1) = 1 := by omega
  have hi9 : ¬ (cap = L - 1) := by omega
  have hiA : ¬ (L = L - 1) := by omega
  have hiB : ¬ (L = i) := by omega
  have hiC : ¬ (cap = i) := by omega
  rw [hJ]
  clear hLc hJ
  have hJL : J ≤ L := by omega
  have hic : i ≤ cap := by omega
  clear hL hk hl
  by_cases hcj : cap = J
  · obtain rfl : cap = L := by omega
    subst hcj
    have hrb : ∀ (ty : TypeId) (c : Nat), (Builtin.append_ #[22, 22] ty #[.slice (some ⟨g, 0, none⟩) i cap, .slice (some ⟨g, 0, none⟩) 0 c]).run Try.prog w.drew = .ok (.slice (some ⟨g, 0, none⟩) (cap - 1) cap) W1 := fun ty c => by
      have h := hra ty c 0 (.inr rfl)
      rwa [Nat.sub_self] at h
    replace hrb := hid hrb
    clear hra
    go_enter Try.func58, Try.ntmps58
    go_upto_region 5 with (fail)
    refine wp_region_any (by kernel_rfl) ?_
    try (change wpAny _ _ _ _ _ _ _ (World.drew _))
    refine wpAny_take (i := 0) (oi := ⟨some 20, _, _, _, _, _⟩) (v := ?_) rfl (by kernel_rfl) (by kernel_rfl) (by kernel_rfl) (fun _ _ _ h => h) (Or.inl ⟨by rfl, ?_⟩) ?_
    rotate_left
    · intro w; go_simp <;> with_reducible rfl
    simp only [Act.put, List.setIfInBounds_toArray, List.set_cons_zero, List.set_cons_succ]
    refine wpAny_take (i := 1) (oi := ⟨some 21, _, _, _, _, _⟩) (v := ?_) rfl (by kernel_rfl) (by kernel_rfl) (by kernel_rfl) (fun _ _ _ h => h) (Or.inl ⟨by rfl, ?_⟩) ?_
    rotate_left
    · intro w; go_simp <;> with_reducible rfl
    simp only [Act.put, List.setIfInBounds_toArray, List.set_cons_zero, List.set_cons_succ]
    refine wpAny_take (i := 2) (oi := ⟨some 22, _, _, _, _, _⟩) (v := ?_) rfl (by kernel_rfl) (by kernel_rfl) (by kernel_rfl) (fun _ _ _ h => h) (Or.inl ⟨by rfl, ?_⟩) ?_
    rotate_left
    · intro w; go_simp <;> with_reducible rfl
    simp only [Act.put, List.setIfInBounds_toArray, List.set_cons_zero, List.set_cons_succ]
    refine wpAny_take (i := 3) (oi := ⟨some 23, _, _, _, _, _⟩) (v := ?_) rfl (by kernel_rfl) (by kernel_rfl) (by kernel_rfl) (fun _ _ _ h => h) (Or.inl ⟨by rfl, ?_⟩) ?_
    rotate_left
    · intro w; go_simp <;> with_reducible rfl
    simp only [Act.put, List.setIfInBounds_toArray, List.set_cons_zero, List.set_cons_succ]
    refine wpAny_take (i := 4) (oi := ⟨some 24, _, _, _, _, _⟩) (v := ?_) rfl (by kernel_rfl) (by kernel_rfl) (by kernel_rfl) (fun _ _ _ h => h) (Or.inl ⟨by rfl, ?_⟩) ?_
    rotate_left
    · intro w; go_simp <;> with_reducible rfl
    simp only [Act.put, List.setIfInBounds_toArray, List.set_cons_zero, List.set_cons_succ]
    refine wpAny_take (i := 5) (oi := ⟨some 25, _, _, _, _, _⟩) (v := ?_) rfl (by kernel_rfl) (by kernel_rfl) (by kernel_rfl) (fun _ _ _ h => h) (Or.inl ⟨by rfl, ?_⟩) ?_
    rotate_left
    · intro w; go_simp <;> with_reducible rfl
    simp only [Act.put, List.setIfInBounds_toArray, List.set_cons_zero, List.set_cons_succ]
    refine wpAny_ready (rs := [6]) (by kernel_rfl) (by simp) ?_
    refine BigFrame.allReady_want rfl (by rfl) (fun K hK => ?_) AllReady.nil
    refine Lib.wp_append_run _ _ _ 22 22 rfl _ _ rfl rfl _ _ (hrb.out _ _) (hK _ _ ?_)
    clear hK K
    refine wpAny_take (i := 7) (oi := ⟨some 0, _, _, _, _, _⟩) (v := ?_) rfl (by kernel_rfl) (by kernel_rfl) (by kernel_rfl) (fun _ _ _ h => h) (Or.inl ⟨by rfl, ?_⟩) ?_
    rotate_left
    · intro w; go_simp <;> with_reducible rfl
    simp only [Act.put, List.setIfInBounds_toArray]
    refine wpAny_done (by kernel_rfl) ?_ _
    go_wp2_with (simp only [hclr])
    go_ret
    exact ⟨rfl, by rw [← List.flatMap_append]; exact hfin.out.2.1, hfin.out.2.2⟩
  · have hrb : ∀ (ty : TypeId) (c : Nat), (Builtin.append_ #[22, 22] ty #[.slice (some ⟨g, 0, none⟩) i cap, .slice (some ⟨g, J * 35, none⟩) (L - J) c]).run Try.prog w.drew = .ok (.slice (some ⟨g, 0, none⟩) (L - 1) cap) W1 := fun ty c => hra ty c _ (.inl rfl)
    replace hrb := hid hrb
    clear hra
    go_enter Try.func58, Try.ntmps58
    go_upto_region 5 with (fail)
    refine wp_region_any (by kernel_rfl) ?_
    try (change wpAny _ _ _ _ _ _ _ (World.drew _))
    refine wpAny_take (i := 0) (oi := ⟨some 20, _, _, _, _, _⟩) (v := ?_) rfl (by kernel_rfl) (by kernel_rfl) (by kernel_rfl) (fun _ _ _ h => h) (Or.inl ⟨by rfl, ?_⟩) ?_
    rotate_left
    · intro w; go_simp <;> with_reducible rfl
    simp only [Act.put, List.setIfInBounds_toArray, List.set_cons_zero, List.set_cons_succ]
    refine wpAny_take (i := 1) (oi := ⟨some 21, _, _, _, _, _⟩) (v := ?_) rfl (by kernel_rfl) (by kernel_rfl) (by kernel_rfl) (fun _ _ _ h => h) (Or.inl ⟨by rfl, ?_⟩) ?_
    rotate_left
    · intro w; go_simp <;> with_reducible rfl
    simp only [Act.put, List.setIfInBounds_toArray, List.set_cons_zero, List.set_cons_succ]
    refine wpAny_take (i := 2) (oi := ⟨some 22, _, _, _, _, _⟩) (v := ?_) rfl (by kernel_rfl) (by kernel_rfl) (by kernel_rfl) (fun _ _ _ h => h) (Or.inl ⟨by rfl, ?_⟩) ?_
    rotate_left
    · intro w; go_simp <;> with_reducible rfl
    simp only [Act.put, List.setIfInBounds_toArray, List.set_cons_zero, List.set_cons_succ]
    refine wpAny_take (i := 3) (oi := ⟨some 23, _, _, _, _, _⟩) (v := ?_) rfl (by kernel_rfl) (by kernel_rfl) (by kernel_rfl) (fun _ _ _ h => h) (Or.inl ⟨by rfl, ?_⟩) ?_
    rotate_left
    · intro w; go_simp <;> with_reducible rfl
    simp only [Act.put, List.setIfInBounds_toArray, List.set_cons_zero, List.set_cons_succ]
    refine wpAny_take (i := 4) (oi := ⟨some 24, _, _, _, _, _⟩) (v := ?_) rfl (by kernel_rfl) (by kernel_rfl) (by kernel_rfl) (fun _ _ _ h => h) (Or.inl ⟨by rfl, ?_⟩) ?_
    rotate_left
    · intro w; go_simp <;> with_reducible rfl
    simp only [Act.put, List.setIfInBounds_toArray, List.set_cons_zero, List.set_cons_succ]
    refine wpAny_take (i := 5) (oi := ⟨some 25, _, _, _, _, _⟩) (v := ?_) rfl (by kernel_rfl) (by kernel_rfl) (by kernel_rfl) (fun _ _ _ h => h) (Or.inl ⟨by rfl, ?_⟩) ?_
    rotate_left
    · intro w; go_simp <;> with_reducible rfl
    simp only [Act.put, List.setIfInBounds_toArray, List.set_cons_zero, List.set_cons_succ]
    refine wpAny_ready (rs := [6]) (by kernel_rfl) (by simp) ?_
    refine BigFrame.allReady_want rfl (by rfl) (fun K hK => ?_) AllReady.nil
    refine Lib.wp_append_run _ _ _ 22 22 rfl _ _ rfl rfl _ _ (hrb.out _ _) (hK _ _ ?_)
    clear hK K
    refine wpAny_take (i := 7) (oi := ⟨some 0, _, _, _, _, _⟩) (v := ?_) rfl (by kernel_rfl) (by kernel_rfl) (by kernel_rfl) (fun _ _ _ h => h) (Or.inl ⟨by rfl, ?_⟩) ?_
    rotate_left
    · intro w; go_simp <;> with_reducible rfl
    simp only [Act.put, List.setIfInBounds_toArray]
    refine wpAny_done (by kernel_rfl) ?_ _
    go_wp2_with (simp only [hclr])
    go_ret
    exact ⟨rfl, by rw [← List.flatMap_append]; exact hfin.out.2.1, hfin.out.2.2⟩
end Go.Proofs.Ytomgjapjeckokaa
