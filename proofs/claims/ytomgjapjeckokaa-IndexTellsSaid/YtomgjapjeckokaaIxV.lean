/- The walks of index's find and Find (printed by gen_ixv.py). -/
import Derived.Test.YtomgjapjeckokaaIxU
import Derived.Deep.RegionHeld3
namespace Go.Proofs.Ytomgjapjeckokaa
open Go.RowKit Go.Shelf Go.Lib

set_option maxRecDepth 100000 in
set_option maxHeartbeats 1000000 in
theorem find_any (l : List Ent) (key : List UInt8) (p : Option Addr) (cap : Nat) (w : World) (hs : Sl w 35 encE (.slice p l.length cap) l) (hl : l.length ≤ 1000000) (hk : ∀ e ∈ l, e.key.length = 32) (hk2 : key.length = 32) (hm : MonoL l key) :
    Calls Try.prog 41 #[.agg #[.slice p l.length cap, .func (.func 51) #[] #[]], .agg (rowU key)] w fun r w' => r = .returned (.tuple #[.int .i64 (posL l key : Nat), .bool (foundL l key)]) ∧ Below w.heap.size w w' := by
  obtain ⟨n₀, hn₀⟩ : ∃ n, w.heap.size = n := ⟨_, rfl⟩
  have hz : (w.alloc (.cells #[.slice p l.length cap, .func (.func 51) #[] #[]] 72)).heap.size = n₀ + 1 := by rw [World.size_alloc, hn₀]
  have g1 := World.alloc_heap_new w (.cells #[.slice p l.length cap, .func (.func 51) #[] #[]] 72)
  have g2 := World.alloc_heap_new (w.alloc (.cells #[.slice p l.length cap, .func (.func 51) #[] #[]] 72)) (.cells (rowU key) 46)
  rw [hz] at g2
  have g1' := (Kept.alloc 0 _ (.cells (rowU key) 46)).same _ _ g1 (.inl rfl)
  rw [hn₀] at g1'
  have s0 := (Kept.alloc 0 _ (.cells (rowU key) 46)).sl ((Kept.alloc 0 w (.cells #[.slice p l.length cap, .func (.func 51) #[] #[]] 72)).sl hs)
  have B2 : Below n₀ w ((w.alloc (.cells #[.slice p l.length cap, .func (.func 51) #[] #[]] 72)).alloc (.cells (rowU key) 46)) := by rw [← hn₀]; exact ((Below.refl _ w).alloc (Nat.le_refl _) _).alloc (by simp) _
  have hi7 : (Try.prog.info? 46).map (·.size) = some (keyV key).length := by rw [keyV_len, hk2]; kernel_rfl
  clear g1 hz
  have cB := hid (fun W (hW : Sl W 35 encE (.slice p l.length cap) l) (hc : W.cell? ⟨n₀, 1, none⟩ = some (.func (.func 51) #[] #[])) => bsf_any l key p cap n₀ W hW hl hk hk2 hc hm)
  obtain ⟨fb, hfb⟩ : ∃ x, foundL l key = x := ⟨_, rfl⟩
  obtain ⟨ps, hps⟩ : ∃ x, posL l key = x := ⟨_, rfl⟩
  rw [hfb, hps] at cB ⊢
  obtain ⟨L, hL⟩ : ∃ L, l.length = L := ⟨_, rfl⟩
  rw [hL] at g1' g2 s0 B2 cB hs ⊢
  obtain ⟨W1, hW1⟩ : ∃ W : World, W = (w.alloc (.cells #[.slice p L cap, .func (.func 51) #[] #[]] 72)).alloc (.cells (rowU key) 46) := ⟨_, rfl⟩
  rw [← hW1] at g1' g2 s0 B2
  have d0 : W1.cell? ⟨n₀, 0, none⟩ = some (.slice p L cap) := cell_blk (i := 0) g1' rfl
  have d1 : W1.cell? ⟨n₀, 1, none⟩ = some (.func (.func 51) #[] #[]) := cell_blk (i := 1) g1' rfl
  have hr := range_blk (cs := keyV key) g2
  clear g1' g2
  go_enter Try.func41, Try.ntmps41
  go_upto_region 1 with (fail)
  rw [← hW1]
  clear hW1 hfb hps
  replace d1 := hid d1
  replace s0 := hid s0
  go_wp2_with (first | refine wpList_load_mid rfl 46 _ rfl (n₀ + 1) 0 rfl (keyV key) _ hr Try.underlying46 rfl hi7 ?_ | (go_at_call 54; refine (cB.out _ s0.out d1.out).mono ?_; rintro r w' ⟨rfl, hb9⟩))
  go_ret2
  exact ⟨rfl, hn₀ ▸ B2.trans (hb9.mono (by have := B2.size; omega))⟩

set_option maxRecDepth 100000 in
set_option maxHeartbeats 1000000 in
theorem Find_any (l : List Ent) (key : List UInt8) (p : Option Addr) (cap : Nat) (w : World) (hs : Sl w 35 encE (.slice p l.length cap) l) (hl : l.length ≤ 1000000) (hk : ∀ e ∈ l, e.key.length = 32) (hk2 : key.length = 32) (hm : MonoL l key) :
    Calls Try.prog 22 #[.slice p l.length cap, .agg (rowU key)] w fun r w' => r = .returned (.tuple #[.int .i64 (posL l key : Nat), .bool (foundL l key)]) ∧ Below w.heap.size w w' := by
  obtain ⟨n₀, hn₀⟩ : ∃ n, w.heap.size = n := ⟨_, rfl⟩
  have g0 := World.alloc_heap_new w (.cells (rowU key) 46)
  rw [hn₀] at g0
  have s0 := (Kept.alloc 0 w (.cells (rowU key) 46)).sl hs
  have B0 : Below n₀ w (w.alloc (.cells (rowU key) 46)) := by rw [← hn₀]; exact (Below.refl _ w).alloc (Nat.le_refl _) _
  have hi7 : (Try.prog.info? 46).map (·.size) = some (keyV key).length := by rw [keyV_len, hk2]; kernel_rfl
  have cF := hid (fun W (hW : Sl W 35 encE (.slice p l.length cap) l) => find_any l key p cap W hW hl hk hk2 hm)
  obtain ⟨fb, hfb⟩ : ∃ x, foundL l key = x := ⟨_, rfl⟩
  obtain ⟨ps, hps⟩ : ∃ x, posL l key = x := ⟨_, rfl⟩
  rw [hfb, hps] at cF ⊢
  obtain ⟨L, hL⟩ : ∃ L, l.length = L := ⟨_, rfl⟩
  rw [hL] at s0 cF hs ⊢
  have cO := hid (fun W => of_any p L cap W)
  obtain ⟨SS, hSS⟩ : ∃ SS : World → Prop, ∀ W, SS W ↔ (W.heap[n₀]? = some (.cells (rowU key) 46 (0, 0)) ∧ Sl W 35 encE (.slice p L cap) l ∧ Below n₀ w W) := ⟨_, fun _ => Iff.rfl⟩
  have at0 : Hid (∀ W, SS W → W.rangeAt n₀ 0 (keyV key) ∧ SS W) := hid (fun W h => ⟨range_blk (cs := keyV key) ((hSS W).1 h).1, h⟩)
  have kS : Hid (∀ W W' : World, (W.rangeAt n₀ 0 (keyV key) ∧ SS W) → Below W.heap.size W W' → W'.rangeAt n₀ 0 (keyV key) ∧ SS W') := hid (by
    rintro W W' ⟨-, h⟩ hb
    have kk9 := Kept.of_below hb 0
    obtain ⟨h2, h3, h4⟩ := (hSS W).1 h
    exact at0.out _ ((hSS W').2 ⟨kk9.same _ _ h2 (.inl rfl), kk9.sl h3, h4.trans (hb.mono (by have := h4.size; omega))⟩))
  have sS : Hid (∀ W : World, (W.rangeAt n₀ 0 (keyV key) ∧ SS W) → Sl W 35 encE (.slice p L cap) l) := hid fun W h => ((hSS W).1 h.2).2.1
  have fS : Hid (∀ W : World, (W.rangeAt n₀ 0 (keyV key) ∧ SS W) → Below n₀ w W) := hid fun W h => ((hSS W).1 h.2).2.2
  obtain ⟨W1, hW1⟩ : ∃ W : World, W = w.alloc (.cells (rowU key) 46) := ⟨_, rfl⟩
  rw [← hW1] at g0 s0 B0
  have st : Hid (W1.drew.rangeAt n₀ 0 (keyV key) ∧ SS W1.drew) := hid (at0.out _ ((hSS W1.drew).2 ⟨g0, (Kept.drewN 0 W1 1).sl s0, B0.drewN 1⟩))
  go_enter Try.func22, Try.ntmps22
  go_upto_region 1 with (fail)
  rw [← hW1]
  clear hW1 hfb hps hSS g0 s0 B0 hs
  refine wp_region_held_drew (S := (fun W => W.rangeAt n₀ 0 (keyV key) ∧ SS W)) (by kernel_rfl) (Hid.out st) (fun hHeld => ?_)
  refine wpAnyH_take (i := 0) (oi := ⟨some 6, _, _, _, _, _⟩) (v := ?_) rfl (by kernel_rfl) (by kernel_rfl) (by kernel_rfl) (fun _ _ _ h => h) (Or.inl ⟨by rfl, ?_⟩) (by assumption) ?_
  rotate_left
  · intro w hSw; (try dsimp only at hSw); go_simp <;> with_reducible rfl
  try simp only [Act.put, List.setIfInBounds_toArray, List.set_cons_zero, List.set_cons_succ]
  refine wpAnyH_take (i := 2) (oi := ⟨some 8, _, _, _, _, _⟩) rfl (by kernel_rfl) (by kernel_rfl) (by kernel_rfl) (fun _ _ _ h => h) (yieldsIf_load_mid (by rfl) 46 _ rfl n₀ 0 rfl (keyV key) _ (fun w h => h.1) Try.underlying46 rfl hi7) (by assumption) ?_
  try simp only [Act.put, List.setIfInBounds_toArray, List.set_cons_zero, List.set_cons_succ]
  refine wpAnyH_ready (rs := [1]) (by kernel_rfl) (by simp) ?_
  refine AllReadyH.cons rfl (fun K hK => ?_) AllReadyH.nil
  go_simp
  refine (cO.out _).mono ?_
  rintro r w' ⟨rfl, hb9⟩
  refine hK.out _ _ ((Hid.out kS) _ _ (by assumption) hb9) (fun hHeld => ?_)
  clear hK K
  try simp only [Act.put, List.setIfInBounds_toArray, List.set_cons_zero, List.set_cons_succ]
  refine wpAnyH_ready (rs := [3]) (by kernel_rfl) (by simp) ?_
  refine AllReadyH.cons rfl (fun K hK => ?_) AllReadyH.nil
  go_simp
  refine (cF.out _ (sS.out _ (by assumption))).mono ?_
  rintro r w' ⟨rfl, hb9⟩
  refine hK.out _ _ ((Hid.out kS) _ _ (by assumption) hb9) (fun hHeld => ?_)
  clear hK K
  try simp only [Act.put, List.setIfInBounds_toArray, List.set_cons_zero, List.set_cons_succ]
  refine wpAnyH_take (i := 4) (oi := ⟨some 10, _, _, _, _, _⟩) (v := ?_) rfl (by kernel_rfl) (by kernel_rfl) (by kernel_rfl) (fun _ _ _ h => h) (Or.inl ⟨by rfl, ?_⟩) (by assumption) ?_
  rotate_left
  · intro w hSw; (try dsimp only at hSw); go_simp <;> with_reducible rfl
  try simp only [Act.put, List.setIfInBounds_toArray, List.set_cons_zero, List.set_cons_succ]
  refine wpAnyH_take (i := 5) (oi := ⟨some 11, _, _, _, _, _⟩) (v := ?_) rfl (by kernel_rfl) (by kernel_rfl) (by kernel_rfl) (fun _ _ _ h => h) (Or.inl ⟨by rfl, ?_⟩) (by assumption) ?_
  rotate_left
  · intro w hSw; (try dsimp only at hSw); go_simp <;> with_reducible rfl
  try simp only [Act.put, List.setIfInBounds_toArray, List.set_cons_zero, List.set_cons_succ]
  refine wpAnyH_take (i := 6) (oi := ⟨some 4, _, _, _, _, _⟩) (v := ?_) rfl (by kernel_rfl) (by kernel_rfl) (by kernel_rfl) (fun _ _ _ h => h) (Or.inl ⟨by rfl, ?_⟩) (by assumption) ?_
  rotate_left
  · intro w hSw; (try dsimp only at hSw); go_simp <;> with_reducible rfl
  try simp only [Act.put, List.setIfInBounds_toArray, List.set_cons_zero, List.set_cons_succ]
  refine wpAnyH_take (i := 7) (oi := ⟨some 5, _, _, _, _, _⟩) (v := ?_) rfl (by kernel_rfl) (by kernel_rfl) (by kernel_rfl) (fun _ _ _ h => h) (Or.inl ⟨by rfl, ?_⟩) (by assumption) ?_
  rotate_left
  · intro w hSw; (try dsimp only at hSw); go_simp <;> with_reducible rfl
  try simp only [Act.put, List.setIfInBounds_toArray, List.set_cons_zero, List.set_cons_succ]
  refine wpAnyH_done (by kernel_rfl) ?_ _
  go_wp2_with (fail)
  go_ret2
  exact ⟨rfl, hn₀ ▸ fS.out _ (by assumption)⟩
end Go.Proofs.Ytomgjapjeckokaa
