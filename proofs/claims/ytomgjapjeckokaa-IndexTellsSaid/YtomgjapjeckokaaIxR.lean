/- The walk of the reference's Less (printed by gen_ixr.py). -/
import Derived.Test.YtomgjapjeckokaaIxQ
import Derived.Lib.Walk
namespace Go.Proofs.Ytomgjapjeckokaa
open Go.RowKit Go.Shelf Go.Lib

theorem conv_bytesU {w : World} {v : Value} {l : List UInt8} (h : Sl w 1 encU v l) : (convert 54 9 v).run Try.prog w = .ok (.string ⟨l.toArray⟩) w := by
  rcases h with ⟨rfl, rfl⟩ | ⟨⟨b, o, sp⟩, cap, rfl, h1, h2, h3, h4⟩
  · exact run_convert_bytes_nil w _ 5 (by kernel_rfl) (by kernel_rfl) 0 0 _ (by kernel_rfl)
  · refine run_convert_bytes_back (P := Try.prog) w 54 9 5 ⟨b, o, sp⟩ cap l Try.underlying54 Try.underlying5 Try.underlying9 (fun j hj => ?_)
    obtain rfl : sp = none := h3 (by rintro rfl; simp at hj)
    have := rangeAt_one (h4 j l[j] (List.getElem?_eq_getElem hj))
    rw [Nat.mul_one] at this
    rw [Addr.add_mid]
    exact this
theorem less_bytes : ∀ a b : List UInt8, Op.bytesLess a b = lessS a b
  | [], [] => by rfl
  | [], _ :: _ => by rfl
  | _ :: _, [] => by rfl
  | x :: a, y :: b => by
    have ih := less_bytes a b
    unfold lessS at ih ⊢
    rw [Op.bytesLess, compareBytes, ih]
    by_cases h1 : x < y
    · simp [h1]
    · by_cases h2 : y < x
      · have h3 : x ≠ y := by rintro rfl; exact absurd h2 (by simp)
        simp [h1, h2, h3]
      · have h3 : x = y := by
          have h4 := UInt8.not_lt.1 h1
          have h5 := UInt8.not_lt.1 h2
          exact UInt8.le_antisymm h5 h4
        subst h3
        simp

set_option maxRecDepth 100000 in
set_option maxHeartbeats 400000 in
theorem rLess_any (a b : List UInt8) (w : World) (ha : a.length = 32) (hb : b.length = 32) :
    Calls Try.prog 39 #[.agg (rowU a), .agg (rowU b)] w fun e w' => e = .returned (.bool (lessS a b)) ∧ Below w.heap.size w w' := by
  obtain ⟨n₀, hn₀⟩ : ∃ n, w.heap.size = n := ⟨_, rfl⟩
  have g1 := World.alloc_heap_new w (.cells (rowU a) 46)
  have hz : (w.alloc (.cells (rowU a) 46)).heap.size = n₀ + 1 := by rw [World.size_alloc, hn₀]
  have g2 := World.alloc_heap_new (w.alloc (.cells (rowU a) 46)) (.cells (rowU b) 46)
  rw [hz] at g2
  have g1' := (Kept.alloc 0 _ (.cells (rowU b) 46)).same _ _ g1 (.inl rfl)
  rw [hn₀] at g1'
  have B2 : Below n₀ w ((w.alloc (.cells (rowU a) 46)).alloc (.cells (rowU b) 46)) := by rw [← hn₀]; exact ((Below.refl _ w).alloc (Nat.le_refl _) _).alloc (by simp) _
  clear g1 hz
  have hls : Op.bytesLess (⟨a.toArray⟩ : ByteArray).toList (⟨b.toArray⟩ : ByteArray).toList = lessS a b := by
    rw [Lib.toList_data, Lib.toList_data]; exact less_bytes a b
  obtain ⟨sa, hsa⟩ : ∃ s : ByteArray, (⟨a.toArray⟩ : ByteArray) = s := ⟨_, rfl⟩
  obtain ⟨sb, hsb⟩ : ∃ s : ByteArray, (⟨b.toArray⟩ : ByteArray) = s := ⟨_, rfl⟩
  rw [hsa, hsb] at hls
  go_enter Try.func39, Try.ntmps39
  go_upto_region 1 with (fail)
  obtain ⟨W1, hW1⟩ : ∃ W : World, W = (w.alloc (.cells (rowU a) 46)).alloc (.cells (rowU b) 46) := ⟨_, rfl⟩
  rw [← hW1] at g1' g2 B2 ⊢
  clear hW1
  have s1 := sl_rowU (c := 32) (show W1.drew.heap[n₀]? = _ from g1') (by omega) (by decide)
  have s2 := sl_rowU (c := 32) (show W1.drew.heap[n₀ + 1]? = _ from g2) (by omega) (by decide)
  rw [ha] at s1
  rw [hb] at s2
  have v1 := conv_bytesU s1
  have v2 := conv_bytesU s2
  rw [hsa] at v1
  rw [hsb] at v2
  clear hsa hsb
  replace hls := hid hls
  refine wp_region_any (by kernel_rfl) ?_
  try (change wpAny _ _ _ _ _ _ _ (World.drew _))
  refine wpAny_take (i := 0) (oi := ⟨some 5, _, _, _, _, _⟩) (v := ?_) rfl (by kernel_rfl) (by kernel_rfl) (by kernel_rfl) (fun _ _ _ h => h) (Or.inl ⟨by rfl, ?_⟩) ?_
  rotate_left
  · intro w; go_simp <;> with_reducible rfl
  simp only [Act.put, List.setIfInBounds_toArray, List.set_cons_zero, List.set_cons_succ]
  refine wpAny_take (i := 2) (oi := ⟨some 7, _, _, _, _, _⟩) (v := ?_) rfl (by kernel_rfl) (by kernel_rfl) (by kernel_rfl) (fun _ _ _ h => h) (Or.inl ⟨by rfl, ?_⟩) ?_
  rotate_left
  · intro w; go_simp <;> with_reducible rfl
  simp only [Act.put, List.setIfInBounds_toArray, List.set_cons_zero, List.set_cons_succ]
  refine wpAny_ready (rs := [1, 3]) (by kernel_rfl) (by simp) ?_
  refine AllReady.cons rfl (fun K hK => ?_) ?_
  · go_simp
    first | refine hK _ _ ?_ | refine ⟨trivial, hK _ _ ?_⟩ | refine ⟨fun _ _ => trivial, hK _ _ ?_⟩
    clear hK K
    refine wpAny_ready (rs := [3]) (by kernel_rfl) (by simp) ?_
    refine AllReady.cons rfl (fun K hK => ?_) AllReady.nil
    go_simp
    first | refine hK _ _ ?_ | refine ⟨trivial, hK _ _ ?_⟩ | refine ⟨fun _ _ => trivial, hK _ _ ?_⟩
    clear hK K
    refine wpAny_take (i := 4) (oi := ⟨some 9, _, _, _, _, _⟩) (v := ?_) rfl (by kernel_rfl) (by kernel_rfl) (by kernel_rfl) (fun _ _ _ h => h) (Or.inl ⟨by rfl, ?_⟩) ?_
    rotate_left
    · intro w; go_simp <;> with_reducible rfl
    simp only [Act.put, List.setIfInBounds_toArray, List.set_cons_zero, List.set_cons_succ]
    refine wpAny_take (i := 5) (oi := ⟨some 4, _, _, _, _, _⟩) (v := ?_) rfl (by kernel_rfl) (by kernel_rfl) (by kernel_rfl) (fun _ _ _ h => h) (Or.inl ⟨by rfl, ?_⟩) ?_
    rotate_left
    · intro w; go_simp <;> with_reducible rfl
    simp only [Act.put, List.setIfInBounds_toArray, List.set_cons_zero, List.set_cons_succ]
    refine wpAny_done (by kernel_rfl) ?_ _
    go_wp2_with (fail)
    go_ret
    exact ⟨by rw [← hls.out]; rfl, hn₀ ▸ B2.drewN 1⟩
  refine AllReady.cons rfl (fun K hK => ?_) AllReady.nil
  go_simp
  first | refine hK _ _ ?_ | refine ⟨trivial, hK _ _ ?_⟩ | refine ⟨fun _ _ => trivial, hK _ _ ?_⟩
  clear hK K
  refine wpAny_ready (rs := [1]) (by kernel_rfl) (by simp) ?_
  refine AllReady.cons rfl (fun K hK => ?_) AllReady.nil
  go_simp
  first | refine hK _ _ ?_ | refine ⟨trivial, hK _ _ ?_⟩ | refine ⟨fun _ _ => trivial, hK _ _ ?_⟩
  clear hK K
  refine wpAny_take (i := 4) (oi := ⟨some 9, _, _, _, _, _⟩) (v := ?_) rfl (by kernel_rfl) (by kernel_rfl) (by kernel_rfl) (fun _ _ _ h => h) (Or.inl ⟨by rfl, ?_⟩) ?_
  rotate_left
  · intro w; go_simp <;> with_reducible rfl
  simp only [Act.put, List.setIfInBounds_toArray, List.set_cons_zero, List.set_cons_succ]
  refine wpAny_take (i := 5) (oi := ⟨some 4, _, _, _, _, _⟩) (v := ?_) rfl (by kernel_rfl) (by kernel_rfl) (by kernel_rfl) (fun _ _ _ h => h) (Or.inl ⟨by rfl, ?_⟩) ?_
  rotate_left
  · intro w; go_simp <;> with_reducible rfl
  simp only [Act.put, List.setIfInBounds_toArray, List.set_cons_zero, List.set_cons_succ]
  refine wpAny_done (by kernel_rfl) ?_ _
  go_wp2_with (fail)
  go_ret
  exact ⟨by rw [← hls.out]; rfl, hn₀ ▸ B2.drewN 1⟩
end Go.Proofs.Ytomgjapjeckokaa
