/- The walk of offer (printed by gen_lng.py). -/
import Derived.Test.YtempicociampoaaGreatDoorLnF
namespace Go.Proofs.YtempicociampoaaGreatDoor
open Go.RowKit Go.Shelf Go.Lib

theorem offer_none {x y : Wy} (h : betterW x y = false) : offerW (some y) x = some y := by
 show (if betterW x y = true then some x else some y) = some y
 rw [if_neg (by rw [h]; simp)]
theorem offer_some {x y : Wy} (h : betterW x y = true) : offerW (some y) x = some x := by
 show (if betterW x y = true then some x else some y) = some x
 rw [if_pos h]
theorem there_at {W : World} {g o n : Nat} {cs : Array Value} {ty : TypeId} (hg : W.heap[g]? = some (.cells cs ty (0, 0))) (hs : o + n ≤ cs.size) : W.there g o n := fun j hj => by
 refine ⟨?_, frozen_blk hg⟩
 rw [cell_blk (i := o + j) (v := cs[o + j]) hg (Array.getElem?_eq_getElem (by omega))]; rfl
theorem after3 {W : World} {g o : Nat} (h : W.there g o 4) (a b c : Value) : (∃ q, (W.setCells g o [a, b, c]).cell? ⟨g, o + 3, none⟩ = some q) ∧ (W.setCells g o [a, b, c]).frozen? ⟨g, o + 3, none⟩ = false := by
 obtain ⟨h1, h2⟩ := h 3 (by omega)
 obtain ⟨v0, h3⟩ := Option.isSome_iff_exists.1 h1
 obtain ⟨v1, h4⟩ := cell?_setCell_some (p := ⟨g, o, none⟩) (x := a) h3
 obtain ⟨v2, h5⟩ := cell?_setCell_some (p := ⟨g, o + 1, none⟩) (x := b) h4
 obtain ⟨v3, h6⟩ := cell?_setCell_some (p := ⟨g, o + 1 + 1, none⟩) (x := c) h5
 exact ⟨⟨v3, h6⟩, by rw [World.frozen?_setCells]; exact h2⟩
set_option maxRecDepth 100000 in
set_option maxHeartbeats 4000000 in
theorem offer_any (g o : Nat) (x : Wy) (v : Value) (c : Option Wy) (r : Value × Int × Int × Bool) (cs : Array Value) (ty : TypeId) (w : World) (hx : Sl w 1 encI v x.br) (hr : w.rangeAt g o (enc4 r)) (hc : RowOk w g r c) (hg : w.heap[g]? = some (.cells cs ty (0, 0))) (hsz : o + 4 ≤ cs.size) :
  Calls Tryz.prog 69 #[.pointer (some ⟨g, o, none⟩), .agg (wayV v x), .func (.func 70) #[] #[]] w fun e w' => (∃ y, e = .returned y) ∧ ∃ U, Below w.heap.size w U ∧
   ((offerW c x = some x ∧ w' = U.setCells g o (enc4 (v, x.tot, x.ov, true))) ∨ (offerW c x = c ∧ w' = U)) := by
 obtain ⟨px, cx, rfl, -⟩ := hx.shape
 obtain ⟨n₀, hn₀⟩ : ∃ n, w.heap.size = n := ⟨_, rfl⟩
 rw [hn₀]
 obtain ⟨W1, hW1⟩ : ∃ W : World, W = w.alloc (.cells (wayV (.slice px x.br.length cx) x) 52) := ⟨_, rfl⟩
 have g1 : W1.heap[n₀]? = some (.cells (wayV (.slice px x.br.length cx) x) 52 (0, 0)) := by rw [hW1, ← hn₀]; exact World.alloc_heap_new w _
 have B1 : Below n₀ w W1 := by rw [hW1, ← hn₀]; exact (Below.refl _ w).alloc (Nat.le_refl _) _
 have B1d : Below n₀ w W1.drew := B1.drewN 1
 have kd : Kept 0 w W1.drew := Kept.of_below (hn₀ ▸ B1d : Below w.heap.size w W1.drew) 0
 have g1d : W1.drew.heap[n₀]? = _ := g1
 have hz1 : n₀ ≤ W1.drew.heap.size := by have := (Array.getElem?_eq_some_iff.1 g1d).1; omega
 have sx := kd.sl hx
 have hst : (fun W => Below W1.drew.heap.size W1.drew W) W1.drew := Below.refl _ _
 have kX := hid (fun W (h : Below W1.drew.heap.size W1.drew W) => range_blk (cs := (wayV (.slice px x.br.length cx) x).toList) (by rw [Array.toArray_toList]; exact (Kept.of_below h 0).same _ _ g1d (.inl rfl)))
 have kT := hid (fun W (h : Below W1.drew.heap.size W1.drew W) => there_at ((Kept.of_below h 0).same _ _ (kd.same _ _ hg (.inl rfl)) (.inl rfl)) hsz)
 have kr := kd.range hr
 cases c with
 | none =>
  obtain rfl := hc
  have kA := hid (fun W (h : Below W1.drew.heap.size W1.drew W) => (show W.cell? ⟨g, o + 3, none⟩ = some (.bool false) from (Kept.of_below h 0).range kr 3 _ rfl))
  have hans := hid (show offerW none x = some x from rfl)
  clear hr kr hx sx hg
  obtain ⟨LB, hLB⟩ : ∃ y, x.br.length = y := ⟨_, rfl⟩
  unfold wayV at hW1 kX ⊢
  rw [hLB] at hW1 kX ⊢
  go_enter Tryz.func69, Tryz.ntmps69
  go_upto_region 1 with (fail)
  rw [← hW1]
  clear hW1 g1 B1
  try simp only [hn₀]
  refine wp_region_held_drew (S := (fun W => Below W1.drew.heap.size W1.drew W)) (by kernel_rfl) hst (fun hHeld => ?_)
  generalize W1.drew = W5 at *
  refine wpAnyH_take (i := 0) (oi := ⟨some 6, _, _, _, _, _⟩) (v := ?_) rfl (by kernel_rfl) (by kernel_rfl) (by kernel_rfl) (fun _ _ _ h => h) (Or.inl ⟨by rfl, ?_⟩) (by assumption) ?_
  rotate_left
  ·intro w hSw; (try dsimp only at hSw); go_simp <;> with_reducible rfl
  try simp only [Act.put, List.setIfInBounds_toArray, List.set_cons_zero, List.set_cons_succ]
  refine wpAnyH_take (i := 1) (oi := ⟨some 7, _, _, _, _, _⟩) (v := ?_) rfl (by kernel_rfl) (by kernel_rfl) (by kernel_rfl) (fun _ _ _ h => h) (Or.inl ⟨by rfl, ?_⟩) (by assumption) ?_
  rotate_left
  ·intro w hSw; (try dsimp only at hSw); go_simp <;> with_reducible rfl
  try simp only [Act.put, List.setIfInBounds_toArray, List.set_cons_zero, List.set_cons_succ]
  refine wpAnyH_take (i := 2) (oi := ⟨some 8, _, _, _, _, _⟩) (v := ?_) rfl (by kernel_rfl) (by kernel_rfl) (by kernel_rfl) (fun _ _ _ h => h) (Or.inl ⟨by rfl, ?_⟩) (by assumption) ?_
  rotate_left
  ·intro w hSw; (try dsimp only at hSw); go_simp <;> with_reducible rfl
  try simp only [Act.put, List.setIfInBounds_toArray, List.set_cons_zero, List.set_cons_succ]
  refine wpAnyH_take (i := 3) (oi := ⟨some 9, _, _, _, _, _⟩) (v := ?_) rfl (by kernel_rfl) (by kernel_rfl) (by kernel_rfl) (fun _ _ _ h => h) (Or.inl ⟨by rfl, ?_⟩) (by assumption) ?_
  rotate_left
  ·intro w hSw; (try dsimp only at hSw); have h9 := kA.out _ hSw; go_simp <;> with_reducible rfl
  try simp only [Act.put, List.setIfInBounds_toArray, List.set_cons_zero, List.set_cons_succ]
  refine wpAnyH_take (i := 4) (oi := ⟨some 10, _, _, _, _, _⟩) (v := ?_) rfl (by kernel_rfl) (by kernel_rfl) (by kernel_rfl) (fun _ _ _ h => h) (Or.inl ⟨by rfl, ?_⟩) (by assumption) ?_
  rotate_left
  ·intro w hSw; (try dsimp only at hSw); go_simp <;> with_reducible rfl
  try simp only [Act.put, List.setIfInBounds_toArray, List.set_cons_zero, List.set_cons_succ]
  refine wpAnyH_take (i := 5) (oi := ⟨some 11, _, _, _, _, _⟩) (v := ?_) rfl (by kernel_rfl) (by kernel_rfl) (by kernel_rfl) (fun _ _ _ h => h) (Or.inl ⟨by rfl, ?_⟩) (by assumption) ?_
  rotate_left
  ·intro w hSw; (try dsimp only at hSw); go_simp <;> with_reducible rfl
  try simp only [Act.put, List.setIfInBounds_toArray, List.set_cons_zero, List.set_cons_succ]
  refine wpAnyH_take (i := 6) (oi := ⟨some 12, _, _, _, _, _⟩) rfl (by kernel_rfl) (by kernel_rfl) (by kernel_rfl) (fun _ _ _ h => h) (Or.inr ⟨by rfl, rfl⟩) (by assumption) ?_
  try simp only [Act.put, List.setIfInBounds_toArray, List.set_cons_zero, List.set_cons_succ]
  refine wpAnyH_take (i := 7) (oi := ⟨some 13, _, _, _, _, _⟩) rfl (by kernel_rfl) (by kernel_rfl) (by kernel_rfl) (fun _ _ _ h => h) (Or.inr ⟨by rfl, rfl⟩) (by assumption) ?_
  try simp only [Act.put, List.setIfInBounds_toArray, List.set_cons_zero, List.set_cons_succ]
  refine wpAnyH_take (i := 8) (oi := ⟨some 14, _, _, _, _, _⟩) rfl (by kernel_rfl) (by kernel_rfl) (by kernel_rfl) (fun _ _ _ h => h) (Or.inr ⟨by rfl, rfl⟩) (by assumption) ?_
  try simp only [Act.put, List.setIfInBounds_toArray, List.set_cons_zero, List.set_cons_succ]
  refine wpAnyH_take (i := 9) (oi := ⟨some 15, _, _, _, _, _⟩) rfl (by kernel_rfl) (by kernel_rfl) (by kernel_rfl) (fun _ _ _ h => h) (Or.inr ⟨by rfl, rfl⟩) (by assumption) ?_
  try simp only [Act.put, List.setIfInBounds_toArray, List.set_cons_zero, List.set_cons_succ]
  refine wpAnyH_take (i := 10) (oi := ⟨some 16, _, _, _, _, _⟩) rfl (by kernel_rfl) (by kernel_rfl) (by kernel_rfl) (fun _ _ _ h => h) (Or.inr ⟨by rfl, rfl⟩) (by assumption) ?_
  try simp only [Act.put, List.setIfInBounds_toArray, List.set_cons_zero, List.set_cons_succ]
  refine wpAnyH_take (i := 11) (oi := ⟨some 17, _, _, _, _, _⟩) rfl (by kernel_rfl) (by kernel_rfl) (by kernel_rfl) (fun _ _ _ h => h) (Or.inr ⟨by rfl, rfl⟩) (by assumption) ?_
  try simp only [Act.put, List.setIfInBounds_toArray, List.set_cons_zero, List.set_cons_succ]
  refine wpAnyH_take (i := 12) (oi := ⟨some 18, _, _, _, _, _⟩) rfl (by kernel_rfl) (by kernel_rfl) (by kernel_rfl) (fun _ _ _ h => h) (Or.inr ⟨by rfl, rfl⟩) (by assumption) ?_
  try simp only [Act.put, List.setIfInBounds_toArray, List.set_cons_zero, List.set_cons_succ]
  refine wpAnyH_take (i := 13) (oi := ⟨some 19, _, _, _, _, _⟩) (v := ?_) rfl (by kernel_rfl) (by kernel_rfl) (by kernel_rfl) (fun _ _ _ h => h) (Or.inl ⟨by rfl, ?_⟩) (by assumption) ?_
  rotate_left
  ·intro w hSw; (try dsimp only at hSw); go_simp <;> with_reducible rfl
  try simp only [Act.put, List.setIfInBounds_toArray, List.set_cons_zero, List.set_cons_succ]
  refine wpAnyH_done (by kernel_rfl) ?_ _
  skip
  have hT := kT.out _ hHeld
  have hX := kX.out _ hHeld
  have BU := B1d.trans (hHeld.mono hz1)
  have ht3 : W5.there g o (#[.slice px LB cx, .int .i64 x.tot, .int .i64 x.ov] : Array Value).size := fun j hj => hT j (Nat.lt_of_lt_of_le hj (show (3 : Nat) ≤ 4 by decide))
  obtain ⟨c3, f3⟩ := after3 hT (.slice px LB cx) (.int .i64 x.tot) (.int .i64 x.ov)
  obtain ⟨q3, c3⟩ := c3
  go_wp2_with (first | refine wpList_load_mid rfl 52 _ rfl n₀ 0 rfl [Value.slice px LB cx, .int .i64 x.tot, .int .i64 x.ov] _ hX Tryz.underlying52 rfl (by kernel_rfl) ?_ | refine wpList_store_mid rfl 52 _ _ rfl g o #[.slice px LB cx, .int .i64 x.tot, .int .i64 x.ov] rfl rfl ht3 (by kernel_rfl) (way_one _ _ _ _ _) ?_)
  go_end0
  exact ⟨⟨_, rfl⟩, W5, BU, .inl ⟨hans.out, rfl⟩⟩
 | some y =>
  obtain ⟨vy, r2⟩ := r
  obtain ⟨hr2, hy, -⟩ := hc
  dsimp only at hr2 hy
  subst hr2
  obtain ⟨py, cy, rfl, -⟩ := hy.shape
  have sy := kd.sl hy
  have kA := hid (fun W (h : Below W1.drew.heap.size W1.drew W) => (show W.cell? ⟨g, o + 3, none⟩ = some (.bool true) from (Kept.of_below h 0).range kr 3 _ rfl))
  have kY := hid (fun W (h : Below W1.drew.heap.size W1.drew W) => (show W.rangeAt g o [Value.slice py y.br.length cy, .int .i64 y.tot, .int .i64 y.ov] from fun j u hj => (Kept.of_below h 0).range kr j u (by
   match j, hj with
   | 0, hj => exact hj
   | 1, hj => exact hj
   | 2, hj => exact hj)))
  have cB := hid (fun W (h : Below W1.drew.heap.size W1.drew W) => better_any x y _ _ W ((Kept.of_below h 0).sl sx) ((Kept.of_below h 0).sl sy))
  obtain ⟨q, hq⟩ : ∃ q, betterW x y = q := ⟨_, rfl⟩
  rw [hq] at cB
  clear hr kr hx sx hg hy sy
  obtain ⟨LB, hLB⟩ : ∃ y, x.br.length = y := ⟨_, rfl⟩
  unfold wayV at hW1 kX ⊢
  rw [hLB] at hW1 kX ⊢
  obtain ⟨LY, hLY⟩ : ∃ z, y.br.length = z := ⟨_, rfl⟩
  unfold wayV at cB
  rw [hLB, hLY] at cB
  rw [hLY] at kY
  go_enter Tryz.func69, Tryz.ntmps69
  go_upto_region 1 with (fail)
  rw [← hW1]
  clear hW1 g1 B1
  try simp only [hn₀]
  refine wp_region_held_drew (S := (fun W => Below W1.drew.heap.size W1.drew W)) (by kernel_rfl) hst (fun hHeld => ?_)
  generalize W1.drew = W5 at *
  refine wpAnyH_take (i := 0) (oi := ⟨some 6, _, _, _, _, _⟩) (v := ?_) rfl (by kernel_rfl) (by kernel_rfl) (by kernel_rfl) (fun _ _ _ h => h) (Or.inl ⟨by rfl, ?_⟩) (by assumption) ?_
  rotate_left
  ·intro w hSw; (try dsimp only at hSw); go_simp <;> with_reducible rfl
  try simp only [Act.put, List.setIfInBounds_toArray, List.set_cons_zero, List.set_cons_succ]
  refine wpAnyH_take (i := 1) (oi := ⟨some 7, _, _, _, _, _⟩) (v := ?_) rfl (by kernel_rfl) (by kernel_rfl) (by kernel_rfl) (fun _ _ _ h => h) (Or.inl ⟨by rfl, ?_⟩) (by assumption) ?_
  rotate_left
  ·intro w hSw; (try dsimp only at hSw); go_simp <;> with_reducible rfl
  try simp only [Act.put, List.setIfInBounds_toArray, List.set_cons_zero, List.set_cons_succ]
  refine wpAnyH_take (i := 2) (oi := ⟨some 8, _, _, _, _, _⟩) (v := ?_) rfl (by kernel_rfl) (by kernel_rfl) (by kernel_rfl) (fun _ _ _ h => h) (Or.inl ⟨by rfl, ?_⟩) (by assumption) ?_
  rotate_left
  ·intro w hSw; (try dsimp only at hSw); go_simp <;> with_reducible rfl
  try simp only [Act.put, List.setIfInBounds_toArray, List.set_cons_zero, List.set_cons_succ]
  refine wpAnyH_take (i := 3) (oi := ⟨some 9, _, _, _, _, _⟩) (v := ?_) rfl (by kernel_rfl) (by kernel_rfl) (by kernel_rfl) (fun _ _ _ h => h) (Or.inl ⟨by rfl, ?_⟩) (by assumption) ?_
  rotate_left
  ·intro w hSw; (try dsimp only at hSw); have h9 := kA.out _ hSw; go_simp <;> with_reducible rfl
  try simp only [Act.put, List.setIfInBounds_toArray, List.set_cons_zero, List.set_cons_succ]
  refine wpAnyH_take (i := 4) (oi := ⟨some 10, _, _, _, _, _⟩) (v := ?_) rfl (by kernel_rfl) (by kernel_rfl) (by kernel_rfl) (fun _ _ _ h => h) (Or.inl ⟨by rfl, ?_⟩) (by assumption) ?_
  rotate_left
  ·intro w hSw; (try dsimp only at hSw); go_simp <;> with_reducible rfl
  try simp only [Act.put, List.setIfInBounds_toArray, List.set_cons_zero, List.set_cons_succ]
  refine wpAnyH_take (i := 5) (oi := ⟨some 11, _, _, _, _, _⟩) (v := ?_) rfl (by kernel_rfl) (by kernel_rfl) (by kernel_rfl) (fun _ _ _ h => h) (Or.inl ⟨by rfl, ?_⟩) (by assumption) ?_
  rotate_left
  ·intro w hSw; (try dsimp only at hSw); go_simp <;> with_reducible rfl
  try simp only [Act.put, List.setIfInBounds_toArray, List.set_cons_zero, List.set_cons_succ]
  refine wpAnyH_take (i := 6) (oi := ⟨some 12, _, _, _, _, _⟩) (v := ?_) rfl (by kernel_rfl) (by kernel_rfl) (by kernel_rfl) (fun _ _ _ h => h) (Or.inl ⟨by rfl, ?_⟩) (by assumption) ?_
  rotate_left
  ·intro w hSw; (try dsimp only at hSw); go_simp <;> with_reducible rfl
  try simp only [Act.put, List.setIfInBounds_toArray, List.set_cons_zero, List.set_cons_succ]
  refine wpAnyH_take (i := 7) (oi := ⟨some 13, _, _, _, _, _⟩) rfl (by kernel_rfl) (by kernel_rfl) (by kernel_rfl) (fun _ _ _ h => h) (yieldsIf_load_mid (by rfl) 52 _ rfl n₀ 0 rfl [Value.slice px LB cx, .int .i64 x.tot, .int .i64 x.ov] _ (fun w h => kX.out w h) Tryz.underlying52 rfl (by kernel_rfl)) (by assumption) ?_
  try simp only [Act.put, List.setIfInBounds_toArray, List.set_cons_zero, List.set_cons_succ]
  refine wpAnyH_take (i := 8) (oi := ⟨some 14, _, _, _, _, _⟩) (v := ?_) rfl (by kernel_rfl) (by kernel_rfl) (by kernel_rfl) (fun _ _ _ h => h) (Or.inl ⟨by rfl, ?_⟩) (by assumption) ?_
  rotate_left
  ·intro w hSw; (try dsimp only at hSw); go_simp <;> with_reducible rfl
  try simp only [Act.put, List.setIfInBounds_toArray, List.set_cons_zero, List.set_cons_succ]
  refine wpAnyH_take (i := 9) (oi := ⟨some 15, _, _, _, _, _⟩) (v := ?_) rfl (by kernel_rfl) (by kernel_rfl) (by kernel_rfl) (fun _ _ _ h => h) (Or.inl ⟨by rfl, ?_⟩) (by assumption) ?_
  rotate_left
  ·intro w hSw; (try dsimp only at hSw); go_simp <;> with_reducible rfl
  try simp only [Act.put, List.setIfInBounds_toArray, List.set_cons_zero, List.set_cons_succ]
  refine wpAnyH_take (i := 10) (oi := ⟨some 16, _, _, _, _, _⟩) (v := ?_) rfl (by kernel_rfl) (by kernel_rfl) (by kernel_rfl) (fun _ _ _ h => h) (Or.inl ⟨by rfl, ?_⟩) (by assumption) ?_
  rotate_left
  ·intro w hSw; (try dsimp only at hSw); go_simp <;> with_reducible rfl
  try simp only [Act.put, List.setIfInBounds_toArray, List.set_cons_zero, List.set_cons_succ]
  refine wpAnyH_take (i := 11) (oi := ⟨some 17, _, _, _, _, _⟩) rfl (by kernel_rfl) (by kernel_rfl) (by kernel_rfl) (fun _ _ _ h => h) (yieldsIf_load_mid (by rfl) 52 _ rfl g o rfl [Value.slice py LY cy, .int .i64 y.tot, .int .i64 y.ov] _ (fun w h => kY.out w h) Tryz.underlying52 rfl (by kernel_rfl)) (by assumption) ?_
  try simp only [Act.put, List.setIfInBounds_toArray, List.set_cons_zero, List.set_cons_succ]
  refine wpAnyH_ready (rs := [12]) (by kernel_rfl) (by simp) ?_
  refine AllReadyH.cons (o := ⟨some 18, _, _, _, _, _⟩) rfl (fun K hK => ?_) AllReadyH.nil
  go_simp
  refine (cB.out _ hHeld).mono ?_
  rintro r w7 ⟨rfl, b7⟩
  have b8 := hHeld.trans (b7.mono hHeld.size)
  clear hHeld b7
  refine hK.out _ _ (b8) (fun hHeld => ?_)
  clear hK K
  try simp only [Act.put, List.setIfInBounds_toArray, List.set_cons_zero, List.set_cons_succ]
  refine wpAnyH_take (i := 13) (oi := ⟨some 19, _, _, _, _, _⟩) (v := ?_) rfl (by kernel_rfl) (by kernel_rfl) (by kernel_rfl) (fun _ _ _ h => h) (Or.inl ⟨by rfl, ?_⟩) (by assumption) ?_
  rotate_left
  ·intro w hSw; (try dsimp only at hSw); go_simp <;> with_reducible rfl
  try simp only [Act.put, List.setIfInBounds_toArray, List.set_cons_zero, List.set_cons_succ]
  refine wpAnyH_done (by kernel_rfl) ?_ _
  skip
  cases q with
  | true =>
   have hans := hid (offer_some hq)
   have hT := kT.out _ hHeld
   have hX := kX.out _ hHeld
   have BU := B1d.trans (hHeld.mono hz1)
   have ht3 : w7.there g o (#[.slice px LB cx, .int .i64 x.tot, .int .i64 x.ov] : Array Value).size := fun j hj => hT j (Nat.lt_of_lt_of_le hj (show (3 : Nat) ≤ 4 by decide))
   obtain ⟨c3, f3⟩ := after3 hT (.slice px LB cx) (.int .i64 x.tot) (.int .i64 x.ov)
   obtain ⟨q3, c3⟩ := c3
   go_wp2_with (first | refine wpList_load_mid rfl 52 _ rfl n₀ 0 rfl [Value.slice px LB cx, .int .i64 x.tot, .int .i64 x.ov] _ hX Tryz.underlying52 rfl (by kernel_rfl) ?_ | refine wpList_store_mid rfl 52 _ _ rfl g o #[.slice px LB cx, .int .i64 x.tot, .int .i64 x.ov] rfl rfl ht3 (by kernel_rfl) (way_one _ _ _ _ _) ?_)
   go_end0
   exact ⟨⟨_, rfl⟩, w7, BU, .inl ⟨hans.out, rfl⟩⟩
  | false =>
   have hans := hid (offer_none hq)
   have BU := B1d.trans (hHeld.mono hz1)
   go_wp2_with (fail)
   go_end0
   exact ⟨⟨_, rfl⟩, w7, BU, .inr ⟨hans.out, rfl⟩⟩
end Go.Proofs.YtempicociampoaaGreatDoor
