/- The walk of the closure that index's find hands to BinarySearchFunc (printed by gen_ixt.py). -/
import Derived.Test.YtomgjapjeckokaaIxS
import Derived.Deep.RegionHeld3
namespace Go.Proofs.Ytomgjapjeckokaa
open Go.RowKit Go.Shelf Go.Lib

def cmpS (a b : List UInt8) : Int := if lessS a b = true then -1 else if lessS b a = true then 1 else 0

set_option maxRecDepth 100000 in
set_option maxHeartbeats 1000000 in
theorem fcmp_any (e : Ent) (key : List UInt8) (ns : Nat) (w : World) (hk : e.key.length = 32) (hk2 : key.length = 32) (hc : w.cell? ⟨ns, 1, none⟩ = some (.func (.func 51) #[] #[])) :
    Calls Try.prog 55 #[.agg (rowE e), .agg (rowU key), .pointer (some ⟨ns, 0, none⟩)] w fun r w' => r = .returned (.int .i64 (cmpS e.key key)) ∧ Below w.heap.size w w' := by
  obtain ⟨n₀, hn₀⟩ : ∃ n, w.heap.size = n := ⟨_, rfl⟩
  have hz : (w.alloc (.cells (rowE e) 48)).heap.size = n₀ + 1 := by rw [World.size_alloc, hn₀]
  have g1 := World.alloc_heap_new w (.cells (rowE e) 48)
  have g2 := World.alloc_heap_new (w.alloc (.cells (rowE e) 48)) (.cells (rowU key) 46)
  rw [hz] at g2
  have g1' := (Kept.alloc 0 _ (.cells (rowU key) 46)).same _ _ g1 (.inl rfl)
  rw [hn₀] at g1'
  have hc' := (Kept.alloc 0 _ (.cells (rowU key) 46)).cell ((Kept.alloc 0 w (.cells (rowE e) 48)).cell hc)
  have B2 : Below n₀ w ((w.alloc (.cells (rowE e) 48)).alloc (.cells (rowU key) 46)) := by rw [← hn₀]; exact ((Below.refl _ w).alloc (Nat.le_refl _) _).alloc (by simp) _
  clear g1 hz
  have hi6 : (Try.prog.info? 48).map (·.size) = some (encE e).length := by rw [encE_len, hk]; kernel_rfl
  have hi7 : (Try.prog.info? 46).map (·.size) = some (keyV key).length := by rw [keyV_len, hk2]; kernel_rfl
  have cK : Hid (∀ W : World, Calls Try.prog 51 #[.agg (rowE e)] W fun r w' => r = .returned (.agg (rowU e.key)) ∧ Below W.heap.size W w') := hid fun W => key_any e W hk
  obtain ⟨b1, hb1⟩ : ∃ x, lessS e.key key = x := ⟨_, rfl⟩
  obtain ⟨b2, hb2⟩ : ∃ x, lessS key e.key = x := ⟨_, rfl⟩
  have cL : Hid (∀ W : World, Calls Try.prog 52 #[.agg (rowU e.key), .agg (rowU key)] W fun r w' => r = .returned (.bool b1) ∧ Below W.heap.size W w') := hid fun W => by rw [← hb1]; exact Less_any _ _ W hk hk2
  have cM : Hid (∀ W : World, Calls Try.prog 52 #[.agg (rowU key), .agg (rowU e.key)] W fun r w' => r = .returned (.bool b2) ∧ Below W.heap.size W w') := hid fun W => by rw [← hb2]; exact Less_any _ _ W hk2 hk
  have hres : cmpS e.key key = if b1 = true then -1 else if b2 = true then 1 else 0 := by unfold cmpS; rw [hb1, hb2]
  clear hb1 hb2 hc
  replace hres := hid hres
  obtain ⟨SS, hSS⟩ : ∃ SS : World → Prop, ∀ W, SS W ↔ (W.cell? ⟨ns, 1, none⟩ = some (.func (.func 51) #[] #[]) ∧ W.heap[n₀]? = some (.cells (rowE e) 48 (0, 0)) ∧ W.heap[n₀ + 1]? = some (.cells (rowU key) 46 (0, 0)) ∧ Below n₀ w W) := ⟨_, fun _ => Iff.rfl⟩
  have at0 : Hid (∀ W, SS W → W.cell? ⟨ns, 1, none⟩ = some (.func (.func 51) #[] #[]) ∧ W.rangeAt n₀ 0 (encE e) ∧ W.rangeAt (n₀ + 1) 0 (keyV key) ∧ SS W) := hid (fun W h => by
    obtain ⟨h1, h2, h3, h4⟩ := (hSS W).1 h
    exact ⟨h1, range_blk (cs := encE e) h2, range_blk (cs := keyV key) h3, h⟩)
  have kS : Hid (∀ W W' : World, (W.cell? ⟨ns, 1, none⟩ = some (.func (.func 51) #[] #[]) ∧ W.rangeAt n₀ 0 (encE e) ∧ W.rangeAt (n₀ + 1) 0 (keyV key) ∧ SS W) → Below W.heap.size W W' → W'.cell? ⟨ns, 1, none⟩ = some (.func (.func 51) #[] #[]) ∧ W'.rangeAt n₀ 0 (encE e) ∧ W'.rangeAt (n₀ + 1) 0 (keyV key) ∧ SS W') := hid (by
    rintro W W' ⟨-, -, -, h⟩ hb
    have kk9 := Kept.of_below hb 0
    obtain ⟨h1, h2, h3, h4⟩ := (hSS W).1 h
    exact at0.out _ ((hSS W').2 ⟨kk9.cell h1, kk9.same _ _ h2 (.inl rfl), kk9.same _ _ h3 (.inl rfl), h4.trans (hb.mono (by have := h4.size; omega))⟩))
  have kD : Hid (∀ W : World, (W.cell? ⟨ns, 1, none⟩ = some (.func (.func 51) #[] #[]) ∧ W.rangeAt n₀ 0 (encE e) ∧ W.rangeAt (n₀ + 1) 0 (keyV key) ∧ SS W) → W.drew.cell? ⟨ns, 1, none⟩ = some (.func (.func 51) #[] #[]) ∧ W.drew.rangeAt n₀ 0 (encE e) ∧ W.drew.rangeAt (n₀ + 1) 0 (keyV key) ∧ SS W.drew) := hid (by
    rintro W ⟨-, -, -, h⟩
    obtain ⟨h1, h2, h3, h4⟩ := (hSS W).1 h
    exact at0.out _ ((hSS W.drew).2 ⟨h1, h2, h3, h4.drewN 1⟩))
  have fS : Hid (∀ W : World, (W.cell? ⟨ns, 1, none⟩ = some (.func (.func 51) #[] #[]) ∧ W.rangeAt n₀ 0 (encE e) ∧ W.rangeAt (n₀ + 1) 0 (keyV key) ∧ SS W) → Below n₀ w W) := hid fun W h => ((hSS W).1 h.2.2.2).2.2.2
  go_enter Try.func55, Try.ntmps55
  go_upto_region 1 with (fail)
  obtain ⟨W1, hW1⟩ : ∃ W : World, W = (w.alloc (.cells (rowE e) 48)).alloc (.cells (rowU key) 46) := ⟨_, rfl⟩
  rw [← hW1] at g1' g2 B2 hc' ⊢
  clear hW1
  have st : Hid (W1.drew.cell? ⟨ns, 1, none⟩ = some (.func (.func 51) #[] #[]) ∧ W1.drew.rangeAt n₀ 0 (encE e) ∧ W1.drew.rangeAt (n₀ + 1) 0 (keyV key) ∧ SS W1.drew) := hid (kD.out _ (at0.out _ ((hSS W1).2 ⟨hc', g1', g2, B2⟩)))
  clear g1' g2 B2 hc' hSS
  refine wp_region_held_drew (S := (fun W => W.cell? ⟨ns, 1, none⟩ = some (.func (.func 51) #[] #[]) ∧ W.rangeAt n₀ 0 (encE e) ∧ W.rangeAt (n₀ + 1) 0 (keyV key) ∧ SS W)) (by kernel_rfl) (Hid.out st) (fun hHeld => ?_)
  refine wpAnyH_take (i := 0) (oi := ⟨some 7, _, _, _, _, _⟩) (v := ?_) rfl (by kernel_rfl) (by kernel_rfl) (by kernel_rfl) (fun _ _ _ h => h) (Or.inl ⟨by rfl, ?_⟩) (by assumption) ?_
  rotate_left
  · intro w hSw; (try dsimp only at hSw); go_simp <;> with_reducible rfl
  try simp only [Act.put, List.setIfInBounds_toArray, List.set_cons_zero, List.set_cons_succ]
  refine wpAnyH_take (i := 1) (oi := ⟨some 8, _, _, _, _, _⟩) (v := ?_) rfl (by kernel_rfl) (by kernel_rfl) (by kernel_rfl) (fun _ _ _ h => h) (Or.inl ⟨by rfl, ?_⟩) (by assumption) ?_
  rotate_left
  · intro w hSw; (try dsimp only at hSw); go_simp <;> with_reducible rfl
  try simp only [Act.put, List.setIfInBounds_toArray, List.set_cons_zero, List.set_cons_succ]
  refine wpAnyH_take (i := 2) (oi := ⟨some 9, _, _, _, _, _⟩) rfl (by kernel_rfl) (by kernel_rfl) (by kernel_rfl) (fun _ _ _ h => h) (yieldsIf_load_mid (by rfl) 48 _ rfl n₀ 0 rfl (encE e) _ (fun w h => h.2.1) Try.underlying48 rfl hi6) (by assumption) ?_
  try simp only [Act.put, List.setIfInBounds_toArray, List.set_cons_zero, List.set_cons_succ]
  refine wpAnyH_take (i := 4) (oi := ⟨some 11, _, _, _, _, _⟩) rfl (by kernel_rfl) (by kernel_rfl) (by kernel_rfl) (fun _ _ _ h => h) (yieldsIf_load_mid (by rfl) 46 _ rfl (n₀ + 1) 0 rfl (keyV key) _ (fun w h => h.2.2.1) Try.underlying46 rfl hi7) (by assumption) ?_
  try simp only [Act.put, List.setIfInBounds_toArray, List.set_cons_zero, List.set_cons_succ]
  refine wpAnyH_ready (rs := [3]) (by kernel_rfl) (by simp) ?_
  refine AllReadyH.cons rfl (fun K hK => ?_) AllReadyH.nil
  go_simp
  refine (cK.out _).mono ?_
  rintro r w' ⟨rfl, hb9⟩
  refine hK.out _ _ ((Hid.out kS) _ _ (by assumption) hb9) (fun hHeld => ?_)
  clear hK K
  try simp only [Act.put, List.setIfInBounds_toArray, List.set_cons_zero, List.set_cons_succ]
  refine wpAnyH_ready (rs := [5]) (by kernel_rfl) (by simp) ?_
  refine AllReadyH.cons rfl (fun K hK => ?_) AllReadyH.nil
  go_simp
  refine (cL.out _).mono ?_
  rintro r w' ⟨rfl, hb9⟩
  refine hK.out _ _ ((Hid.out kS) _ _ (by assumption) hb9) (fun hHeld => ?_)
  clear hK K
  try simp only [Act.put, List.setIfInBounds_toArray, List.set_cons_zero, List.set_cons_succ]
  refine wpAnyH_take (i := 6) (oi := ⟨some 6, _, _, _, _, _⟩) (v := ?_) rfl (by kernel_rfl) (by kernel_rfl) (by kernel_rfl) (fun _ _ _ h => h) (Or.inl ⟨by rfl, ?_⟩) (by assumption) ?_
  rotate_left
  · intro w hSw; (try dsimp only at hSw); go_simp <;> with_reducible rfl
  try simp only [Act.put, List.setIfInBounds_toArray, List.set_cons_zero, List.set_cons_succ]
  refine wpAnyH_done (by kernel_rfl) ?_ _
  cases b1 with
  | true =>
    go_wp2_with (fail)
    go_ret
    exact ⟨by rw [hres.out]; rfl, hn₀ ▸ fS.out _ (by assumption)⟩
  | false =>
    go_upto_region 3 with (fail)
    have st3 : Hid (w'.drew.cell? ⟨ns, 1, none⟩ = some (.func (.func 51) #[] #[]) ∧ w'.drew.rangeAt n₀ 0 (encE e) ∧ w'.drew.rangeAt (n₀ + 1) 0 (keyV key) ∧ SS w'.drew) := hid (kD.out _ (by assumption))
    clear st hHeld
    refine wp_region_held_drew (S := (fun W => W.cell? ⟨ns, 1, none⟩ = some (.func (.func 51) #[] #[]) ∧ W.rangeAt n₀ 0 (encE e) ∧ W.rangeAt (n₀ + 1) 0 (keyV key) ∧ SS W)) (by kernel_rfl) (Hid.out st3) (fun hHeld => ?_)
    refine wpAnyH_take (i := 0) (oi := ⟨some 14, _, _, _, _, _⟩) rfl (by kernel_rfl) (by kernel_rfl) (by kernel_rfl) (fun _ _ _ h => h) (yieldsIf_load_mid (by rfl) 46 _ rfl (n₀ + 1) 0 rfl (keyV key) _ (fun w h => h.2.2.1) Try.underlying46 rfl hi7) (by assumption) ?_
    try simp only [Act.put, List.setIfInBounds_toArray, List.set_cons_zero, List.set_cons_succ]
    refine wpAnyH_take (i := 1) (oi := ⟨some 15, _, _, _, _, _⟩) (v := ?_) rfl (by kernel_rfl) (by kernel_rfl) (by kernel_rfl) (fun _ _ _ h => h) (Or.inl ⟨by rfl, ?_⟩) (by assumption) ?_
    rotate_left
    · intro w hSw; (try dsimp only at hSw); go_simp <;> with_reducible rfl
    try simp only [Act.put, List.setIfInBounds_toArray, List.set_cons_zero, List.set_cons_succ]
    refine wpAnyH_take (i := 2) (oi := ⟨some 16, _, _, _, _, _⟩) (v := ?_) rfl (by kernel_rfl) (by kernel_rfl) (by kernel_rfl) (fun _ _ _ h => h) (Or.inl ⟨by rfl, ?_⟩) (by assumption) ?_
    rotate_left
    · intro w hSw; (try dsimp only at hSw); go_simp <;> with_reducible rfl
    try simp only [Act.put, List.setIfInBounds_toArray, List.set_cons_zero, List.set_cons_succ]
    refine wpAnyH_take (i := 3) (oi := ⟨some 17, _, _, _, _, _⟩) rfl (by kernel_rfl) (by kernel_rfl) (by kernel_rfl) (fun _ _ _ h => h) (yieldsIf_load_mid (by rfl) 48 _ rfl n₀ 0 rfl (encE e) _ (fun w h => h.2.1) Try.underlying48 rfl hi6) (by assumption) ?_
    try simp only [Act.put, List.setIfInBounds_toArray, List.set_cons_zero, List.set_cons_succ]
    refine wpAnyH_ready (rs := [4]) (by kernel_rfl) (by simp) ?_
    refine AllReadyH.cons rfl (fun K hK => ?_) AllReadyH.nil
    go_simp
    refine (cK.out _).mono ?_
    rintro r w' ⟨rfl, hb9⟩
    refine hK.out _ _ ((Hid.out kS) _ _ (by assumption) hb9) (fun hHeld => ?_)
    clear hK K
    try simp only [Act.put, List.setIfInBounds_toArray, List.set_cons_zero, List.set_cons_succ]
    refine wpAnyH_ready (rs := [5]) (by kernel_rfl) (by simp) ?_
    refine AllReadyH.cons rfl (fun K hK => ?_) AllReadyH.nil
    go_simp
    refine (cM.out _).mono ?_
    rintro r w' ⟨rfl, hb9⟩
    refine hK.out _ _ ((Hid.out kS) _ _ (by assumption) hb9) (fun hHeld => ?_)
    clear hK K
    try simp only [Act.put, List.setIfInBounds_toArray, List.set_cons_zero, List.set_cons_succ]
    refine wpAnyH_take (i := 6) (oi := ⟨some 13, _, _, _, _, _⟩) (v := ?_) rfl (by kernel_rfl) (by kernel_rfl) (by kernel_rfl) (fun _ _ _ h => h) (Or.inl ⟨by rfl, ?_⟩) (by assumption) ?_
    rotate_left
    · intro w hSw; (try dsimp only at hSw); go_simp <;> with_reducible rfl
    try simp only [Act.put, List.setIfInBounds_toArray, List.set_cons_zero, List.set_cons_succ]
    refine wpAnyH_done (by kernel_rfl) ?_ _
    cases b2 with
    | true =>
      go_wp2_with (fail)
      go_ret
      exact ⟨by rw [hres.out]; rfl, hn₀ ▸ fS.out _ (by assumption)⟩
    | false =>
      go_wp2_with (fail)
      go_ret
      exact ⟨by rw [hres.out]; rfl, hn₀ ▸ fS.out _ (by assumption)⟩
end Go.Proofs.Ytomgjapjeckokaa
