/- The walks of index's with and without (printed by gen_iyc.py). -/
import Derived.Test.YtomgjapjeckokaaIyB
import Derived.Test.YtomgjapjeckokaaIyA
import Derived.Deep.RegionHeld3
import Derived.Great.BuildSlice
namespace Go.Proofs.Ytomgjapjeckokaa
open Go.RowKit Go.Shelf Go.Lib

section
variable {P : Program}
/-- a slice literal of one member, its cells a row -/
theorem wp_build1 {o : Oper} {a : Act} {w : World} {K : Act → World → Prop} {Q : Exit → Act → World → Prop} (t e : TypeId) (x : Operand) (ho : o.op = .buildSlice t 1 #[(0, x)])
    (hu : P.underlying t = some (.slice e)) {ie : TypeInfo} {z : Value} (hie : P.info? e = some ie) (hz : ie.zero = some z) (cs : Array Value) (hx : a.eval x = .agg cs) (hs : cs.size = ie.size) (hb : 0 < ie.size ∧ ie.size ≤ 1000)
    (h : K (a.put o.dst (.slice (some ⟨w.heap.size, 0, none⟩) 1 1)) (w.alloc (.cells cs e))) : o.wp P a w K Q := by
  refine wp_buildSlice t e 1 _ ho cs ie z hu hie hz (by omega) (by omega) ?_ h
  have h2 := Great.fill_whole (s := ie.size) hb.1 [Value.agg cs] ((Array.range (1 * ie.size)).map (z.cells[· % z.cells.size]!)) (fun v hv => by obtain rfl := List.mem_singleton.1 hv; exact hs) (by simp)
  simp only [List.map_toArray, List.map_cons, List.map_nil, hx]
  simpa [Value.cells] using h2
end
theorem ownsRow_mono {w : World} {base base' : Nat} {e : TypeId} {size : Nat} {v : Value} {n : Nat} {xs : List Value} (h : w.ownsRow base e size v n xs) (hb : base' ≤ base) : w.ownsRow base' e size v n xs := by
  obtain ⟨h1, h2⟩ := h
  refine ⟨h1, h2.imp id ?_⟩
  rintro ⟨g, cap, cur, hv, hg, r⟩
  exact ⟨g, cap, cur, hv, by omega, r⟩

set_option maxRecDepth 100000 in
set_option maxHeartbeats 400000 in
theorem eclone_all (l : List Ent) (v : Value) (w : World) (hs : Sl w 35 encE v l) (hk : ∀ e ∈ l, e.key.length = 32) (hn : l.length ≤ 1000000) :
    Calls Try.prog 57 #[v] w fun e w' => ∃ v', e = .returned v' ∧ w'.ownsRow w.heap.size 48 35 v' l.length (l.flatMap encE) ∧ Below w.heap.size w w' := by
  rcases hs with ⟨rfl, rfl⟩ | ⟨a, cap, rfl, h⟩
  · have q22 : ∀ (W : World) (n c n' c' : Nat), (binOp .eql 22 (.slice none n c) (.slice none n' c')).run Try.prog W = .ok (.bool true) W := fun W n c n' c' => Lib.run_eql_slice_nil W _ _ none n c n' c' Try.underlying22
    go_enter Try.func57, Try.ntmps57
    go_wp2_with (at_builtin; go_must (refine wpList_append_own_none rfl _ _ 22 rfl w.heap.size 48 _ 35 Try.underlying22 rfl _ 0 [] _ _ rfl rfl (World.ownsRow_nil w _ _ _) ?_))
    go_ret
    exact ⟨_, rfl, World.ownsRow_nil w _ _ _, Below.refl _ _⟩
  · refine (eclone_any l a l.length cap w (.inr ⟨a, cap, rfl, h⟩) hk hn).mono ?_
    rintro r w' ⟨v', h1, h2, -, h3⟩
    exact ⟨v', h1, h2, h3⟩

set_option maxRecDepth 100000 in
set_option maxHeartbeats 1000000 in
theorem insN_any (e : Ent) (base vb vc : Nat) (w : World) (hb : base ≤ w.heap.size) (hv : w.heap[vb]? = some (.cells (rowE e) 48 (0, 0))) (hvc : 1 ≤ vc ∧ vc ≤ maxLen) (hke : e.key.length = 32) :
    Calls Try.prog 56 #[.slice none 0 0, .int .i64 0, .slice (some ⟨vb, 0, none⟩) 1 vc] w fun r w' => ∃ v', r = .returned v' ∧ w'.ownsRow base 48 35 v' 1 ([e].flatMap encE) ∧ v' ≠ .slice none 0 0 ∧ w.grownBy w' none := by
  obtain ⟨i0, z, hi, hz0, hz1, hz2, hz3⟩ := infoE_parts
  have hsv : Sl w 35 encE (.slice (some ⟨vb, 0, none⟩) 1 vc) [e] := by
    refine Sl.mk (l := [e]) hvc.1 hvc.2 fun i x hx => ?_
    match i, hx with
    | 0, hx =>
      obtain rfl := Option.some.inj hx
      rw [Nat.zero_mul, Nat.add_zero]
      exact range_blk (cs := encE e) hv
  have he1 : ∀ x ∈ [e], (encE x).length = 35 ∧ ∀ u ∈ encE x, u.oneCell' = true := encE_enc (fun x hx => by obtain rfl := List.mem_singleton.1 hx; exact hke)
  go_enter Try.func56, Try.ntmps56
  go_wp2_with (at_builtin; go_must (refine wpList_append_sl rfl _ _ 22 rfl base 48 i0 z 35 56 Try.underlying22 hi hz0 hz1 hz2 hz3 (by decide) _ _ _ rfl (World.ownsRow_nil w base _ _) encE _ [e] rfl hsv he1 (by unfold maxLen; simp only [List.length_singleton]; omega) (by simp only [List.length_singleton]; omega) hb ?_; intro v1 w1 ho1 hg1 hn1))
  go_ret
  exact ⟨v1, rfl, ho1, fun e9 => (by have h9 := (hn1.1 e9).2; simp at h9), hg1⟩

/-- an entry laid in, whatever list it is -/
theorem ins_all (l : List Ent) (e : Ent) (i base vb : Nat) (v : Value) (w : World) (ho : w.ownsRow base 48 35 v l.length (l.flatMap encE)) (hi : i ≤ l.length) (hb : base ≤ w.heap.size) (hv : w.heap[vb]? = some (.cells (rowE e) 48 (0, 0))) (hne : v.ownBlock ≠ some vb) (hl : l.length ≤ 1000000) (hk : ∀ e ∈ l, e.key.length = 32) (hke : e.key.length = 32) :
    Calls Try.prog 56 #[v, .int .i64 i, .slice (some ⟨vb, 0, none⟩) 1 1] w fun r w' => ∃ v', r = .returned v' ∧ w'.ownsRow base 48 35 v' (l.length + 1) ((l.take i ++ [e] ++ l.drop i).flatMap encE) ∧ v' ≠ .slice none 0 0 ∧ w.grownBy w' v.ownBlock := by
  have hvc : 1 ≤ 1 ∧ 1 ≤ maxLen := ⟨Nat.le_refl _, by decide⟩
  rcases ho.2 with ⟨rfl, h0⟩ | ⟨g, cap, cur, rfl, -⟩
  · obtain rfl := List.length_eq_zero_iff.1 h0
    obtain rfl : i = 0 := by simpa using hi
    exact insN_any e base vb 1 w hb hv hvc hke
  · exact ins_any l e i l.length cap base g vb 1 w ho rfl hi hb hv (fun e9 => hne (by rw [e9]; rfl)) hl hvc hk hke

set_option maxRecDepth 100000 in
set_option maxHeartbeats 1000000 in
theorem with_any (l : List Ent) (e : Ent) (i : Nat) (p : Option Addr) (cap : Nat) (w : World) (hs : Sl w 35 encE (.slice p l.length cap) l) (hi : i ≤ l.length) (hl : l.length ≤ 1000000) (hk : ∀ e ∈ l, e.key.length = 32) (hke : e.key.length = 32) :
    Calls Try.prog 42 #[.agg #[.slice p l.length cap, .func (.func 51) #[] #[]], .int .i64 i, .agg (rowE e)] w fun r w' => ∃ v', r = .returned v' ∧ w'.ownsRow w.heap.size 48 35 v' (l.length + 1) ((l.take i ++ [e] ++ l.drop i).flatMap encE) ∧ v' ≠ .slice none 0 0 ∧ Below w.heap.size w w' := by
  obtain ⟨n₀, hn₀⟩ : ∃ n, w.heap.size = n := ⟨_, rfl⟩
  obtain ⟨i0, z, hi0, hz0, hz1, -, -⟩ := infoE_parts
  have cC := hid (fun (W : World) (hW : Sl W 35 encE (.slice p l.length cap) l) => eclone_all l _ W hW hk hl)
  have cI := hid (fun (W : World) (v : Value) (vb : Nat) (ho : W.ownsRow n₀ 48 35 v l.length (l.flatMap encE)) (hb : n₀ ≤ W.heap.size) (hv : W.heap[vb]? = some (.cells (rowE e) 48 (0, 0))) (hne : v.ownBlock ≠ some vb) => ins_all l e i n₀ vb v W ho hi hb hv hne hl hk hke)
  obtain ⟨n, hn⟩ : ∃ n, l.length = n := ⟨_, rfl⟩
  rw [hn] at hs cC cI ⊢
  have hz : (w.alloc (.cells #[.slice p n cap, .func (.func 51) #[] #[]] 72)).heap.size = n₀ + 1 := by rw [World.size_alloc, hn₀]
  have g1 := World.alloc_heap_new w (.cells #[.slice p n cap, .func (.func 51) #[] #[]] 72)
  have g2 := World.alloc_heap_new (w.alloc (.cells #[.slice p n cap, .func (.func 51) #[] #[]] 72)) (.cells (rowE e) 48)
  rw [hz] at g2
  have g1' := (Kept.alloc 0 _ (.cells (rowE e) 48)).same _ _ g1 (.inl rfl)
  rw [hn₀] at g1'
  have s0 := (Kept.alloc 0 _ (.cells (rowE e) 48)).sl ((Kept.alloc 0 w (.cells #[.slice p n cap, .func (.func 51) #[] #[]] 72)).sl hs)
  have B2 : Below n₀ w ((w.alloc (.cells #[.slice p n cap, .func (.func 51) #[] #[]] 72)).alloc (.cells (rowE e) 48)) := by rw [← hn₀]; exact ((Below.refl _ w).alloc (Nat.le_refl _) _).alloc (by simp) _
  have hi6 : (Try.prog.info? 48).map (·.size) = some (encE e).length := by rw [encE_len, hke]; kernel_rfl
  clear g1 hz hs
  obtain ⟨L', hL'⟩ : ∃ x, (l.take i ++ [e] ++ l.drop i).flatMap encE = x := ⟨_, rfl⟩
  obtain ⟨X, hX⟩ : ∃ x, l.flatMap encE = x := ⟨_, rfl⟩
  rw [hL', hX] at cI
  rw [hX] at cC
  rw [hL']
  clear hL' hX
  go_enter Try.func42, Try.ntmps42
  go_upto_region 1 with (fail)
  obtain ⟨W4, hW4⟩ : ∃ W : World, W = (w.alloc (.cells #[.slice p n cap, .func (.func 51) #[] #[]] 72)).alloc (.cells (rowE e) 48) := ⟨_, rfl⟩
  rw [← hW4] at g1' g2 s0 B2 ⊢
  clear hW4
  have hst : W4.drew.cell? ⟨n₀, 0, none⟩ = some (.slice p n cap) ∧ W4.drew.rangeAt (n₀ + 1) 0 (encE e) := ⟨cell_blk (w := W4.drew) (i := 0) g1' rfl, range_blk (w := W4.drew) (cs := encE e) g2⟩
  have sW : Sl W4.drew 35 encE (.slice p n cap) l := (Kept.drewN 0 W4 1).sl s0
  have BW : Below n₀ w W4.drew := B2.drewN 1
  have hsz : n₀ + 2 ≤ W4.drew.heap.size := (Array.getElem?_eq_some_iff.1 g2).1
  clear g1' g2 s0 B2
  refine wp_region_held_drew (S := (fun W => W.cell? ⟨n₀, 0, none⟩ = some (.slice p n cap) ∧ W.rangeAt (n₀ + 1) 0 (encE e))) (by kernel_rfl) hst (fun hHeld => ?_)
  generalize W4.drew = W5 at *
  refine wpAnyH_take (i := 0) (oi := ⟨some 7, _, _, _, _, _⟩) (v := ?_) rfl (by kernel_rfl) (by kernel_rfl) (by kernel_rfl) (fun _ _ _ h => h) (Or.inl ⟨by rfl, ?_⟩) (by assumption) ?_
  rotate_left
  · intro w hSw; (try dsimp only at hSw); go_simp <;> with_reducible rfl
  try simp only [Act.put, List.setIfInBounds_toArray, List.set_cons_zero, List.set_cons_succ]
  refine wpAnyH_take (i := 1) (oi := ⟨some 8, _, _, _, _, _⟩) (v := ?_) rfl (by kernel_rfl) (by kernel_rfl) (by kernel_rfl) (fun _ _ _ h => h) (Or.inl ⟨by rfl, ?_⟩) (by assumption) ?_
  rotate_left
  · intro w hSw; (try dsimp only at hSw); go_simp <;> with_reducible rfl
  try simp only [Act.put, List.setIfInBounds_toArray, List.set_cons_zero, List.set_cons_succ]
  refine wpAnyH_take (i := 3) (oi := ⟨some 10, _, _, _, _, _⟩) (v := ?_) rfl (by kernel_rfl) (by kernel_rfl) (by kernel_rfl) (fun _ _ _ h => h) (Or.inl ⟨by rfl, ?_⟩) (by assumption) ?_
  rotate_left
  · intro w hSw; (try dsimp only at hSw); go_simp <;> with_reducible rfl
  try simp only [Act.put, List.setIfInBounds_toArray, List.set_cons_zero, List.set_cons_succ]
  refine wpAnyH_take (i := 4) (oi := ⟨some 11, _, _, _, _, _⟩) rfl (by kernel_rfl) (by kernel_rfl) (by kernel_rfl) (fun _ _ _ h => h) (yieldsIf_load_mid (by rfl) 48 _ rfl (n₀ + 1) 0 rfl (encE e) _ (fun w h => h.2) Try.underlying48 rfl hi6) (by assumption) ?_
  try simp only [Act.put, List.setIfInBounds_toArray, List.set_cons_zero, List.set_cons_succ]
  refine wpAnyH_ready (rs := [2, 5]) (by kernel_rfl) (by simp) ?_
  refine AllReadyH.cons rfl (fun K hK => ?_) ?_
  · go_simp
    refine (cC.out _ sW).mono ?_
    rintro r w2 ⟨v2, rfl, o2, b2⟩
    have k2 := Kept.of_below b2 0
    have B2 := BW.trans (b2.mono (by have := BW.size; omega))
    have o2' := ownsRow_mono o2 (show n₀ ≤ _ by have := BW.size; omega)
    have hv0 : ∀ j, v2.ownBlock = some j → n₀ + 2 ≤ j := fun j e9 => by have := own_baseI o2 e9; omega
    refine hK.out _ _ (⟨k2.cell hHeld.1, k2.range hHeld.2⟩) (fun hHeld => ?_)
    clear hK K
    try simp only [Act.put, List.setIfInBounds_toArray, List.set_cons_zero, List.set_cons_succ]
    refine wpAnyH_ready (rs := [5]) (by kernel_rfl) (by simp) ?_
    refine AllReadyH.cons rfl (fun K hK => ?_) AllReadyH.nil
    refine (if_pos (by rfl)).mpr ?_
    refine wp_build1 22 48 _ rfl Try.underlying22 hi0 hz0 (rowE e) rfl (by rw [rowE_size hke, hz1]) (by rw [hz1]; decide) ?_
    obtain ⟨vb, hvb0⟩ : ∃ n, w2.heap.size = n := ⟨_, rfl⟩
    have kk := Kept.alloc 0 w2 (.cells (rowE e) 48)
    have g5' := World.alloc_heap_new w2 (.cells (rowE e) 48)
    rw [hvb0] at g5'
    have hvb : v2.ownBlock ≠ some vb := fun e9 => by have := own_ltI o2 e9; omega
    replace o2' := kk.owns o2'
    replace B2 := B2.alloc (by have := B2.size; omega) (.cells (rowE e) 48)
    refine hK.out _ _ (⟨kk.cell hHeld.1, kk.range hHeld.2⟩) (fun hHeld => ?_)
    clear hK K
    try simp only [Act.put, List.setIfInBounds_toArray]
    refine wpAnyH_ready (rs := [6]) (by kernel_rfl) (by simp) ?_
    refine AllReadyH.cons rfl (fun K hK => ?_) AllReadyH.nil
    go_simp
    refine (cI.out _ v2 vb o2' (by have := B2.size; omega) g5' hvb).mono ?_
    rintro r w7 ⟨v7, rfl, o7, hn7, g7⟩
    have B7 := B2.grown g7 (by have := B2.size; omega) (fun j e9 => own_baseI o2' e9)
    refine hK.out _ _ (⟨g7.cell hHeld.1 (fun e9 => absurd (hv0 n₀ e9.symm) (by omega)), fun j v hv => g7.cell (hHeld.2 j v hv) (fun e9 => absurd (hv0 (n₀ + 1) e9.symm) (by omega))⟩) (fun hHeld => ?_)
    clear hK K
    try simp only [Act.put, List.setIfInBounds_toArray, List.set_cons_zero, List.set_cons_succ]
    refine wpAnyH_take (i := 7) (oi := ⟨some 6, _, _, _, _, _⟩) (v := ?_) rfl (by kernel_rfl) (by kernel_rfl) (by kernel_rfl) (fun _ _ _ h => h) (Or.inl ⟨by rfl, ?_⟩) (by assumption) ?_
    rotate_left
    · intro w hSw; (try dsimp only at hSw); go_simp <;> with_reducible rfl
    try simp only [Act.put, List.setIfInBounds_toArray, List.set_cons_zero, List.set_cons_succ]
    refine wpAnyH_done (by kernel_rfl) ?_ _
    go_wp2_with (fail)
    go_ret
    subst hn₀
    exact ⟨v7, rfl, o7, hn7, B7⟩
  refine AllReadyH.cons rfl (fun K hK => ?_) AllReadyH.nil
  refine (if_pos (by rfl)).mpr ?_
  refine wp_build1 22 48 _ rfl Try.underlying22 hi0 hz0 (rowE e) rfl (by rw [rowE_size hke, hz1]) (by rw [hz1]; decide) ?_
  obtain ⟨vb, hvb0⟩ : ∃ n, W5.heap.size = n := ⟨_, rfl⟩
  have kk := Kept.alloc 0 W5 (.cells (rowE e) 48)
  have g5 := World.alloc_heap_new W5 (.cells (rowE e) 48)
  rw [hvb0] at g5
  have s5 := kk.sl sW
  have B5 := BW.alloc (by have := BW.size; omega) (.cells (rowE e) 48)
  refine hK.out _ _ (⟨kk.cell hHeld.1, kk.range hHeld.2⟩) (fun hHeld => ?_)
  clear hK K
  try simp only [Act.put, List.setIfInBounds_toArray]
  refine wpAnyH_ready (rs := [2]) (by kernel_rfl) (by simp) ?_
  refine AllReadyH.cons rfl (fun K hK => ?_) AllReadyH.nil
  go_simp
  refine (cC.out _ s5).mono ?_
  rintro r w2 ⟨v2, rfl, o2, b2⟩
  have k2 := Kept.of_below b2 0
  have g5' := k2.same _ _ g5 (.inl rfl)
  have B2 := B5.trans (b2.mono (by have := B5.size; omega))
  have o2' := ownsRow_mono o2 (show n₀ ≤ _ by have := B5.size; omega)
  have hvb : v2.ownBlock ≠ some vb := fun e9 => by have := own_baseI o2 e9; have := (Array.getElem?_eq_some_iff.1 g5).1; omega
  have hv0 : ∀ j, v2.ownBlock = some j → n₀ + 2 ≤ j := fun j e9 => by have := own_baseI o2 e9; have := kk.size; omega
  refine hK.out _ _ (⟨k2.cell hHeld.1, k2.range hHeld.2⟩) (fun hHeld => ?_)
  clear hK K
  try simp only [Act.put, List.setIfInBounds_toArray, List.set_cons_zero, List.set_cons_succ]
  refine wpAnyH_ready (rs := [6]) (by kernel_rfl) (by simp) ?_
  refine AllReadyH.cons rfl (fun K hK => ?_) AllReadyH.nil
  go_simp
  refine (cI.out _ v2 vb o2' (by have := B2.size; omega) g5' hvb).mono ?_
  rintro r w7 ⟨v7, rfl, o7, hn7, g7⟩
  have B7 := B2.grown g7 (by have := B2.size; omega) (fun j e9 => own_baseI o2' e9)
  refine hK.out _ _ (⟨g7.cell hHeld.1 (fun e9 => absurd (hv0 n₀ e9.symm) (by omega)), fun j v hv => g7.cell (hHeld.2 j v hv) (fun e9 => absurd (hv0 (n₀ + 1) e9.symm) (by omega))⟩) (fun hHeld => ?_)
  clear hK K
  try simp only [Act.put, List.setIfInBounds_toArray, List.set_cons_zero, List.set_cons_succ]
  refine wpAnyH_take (i := 7) (oi := ⟨some 6, _, _, _, _, _⟩) (v := ?_) rfl (by kernel_rfl) (by kernel_rfl) (by kernel_rfl) (fun _ _ _ h => h) (Or.inl ⟨by rfl, ?_⟩) (by assumption) ?_
  rotate_left
  · intro w hSw; (try dsimp only at hSw); go_simp <;> with_reducible rfl
  try simp only [Act.put, List.setIfInBounds_toArray, List.set_cons_zero, List.set_cons_succ]
  refine wpAnyH_done (by kernel_rfl) ?_ _
  go_wp2_with (fail)
  go_ret
  subst hn₀
  exact ⟨v7, rfl, o7, hn7, B7⟩

set_option maxRecDepth 100000 in
set_option maxHeartbeats 1000000 in
theorem without_any (l : List Ent) (i : Nat) (p : Option Addr) (cap : Nat) (w : World) (hs : Sl w 35 encE (.slice p l.length cap) l) (hi : i < l.length) (hl : l.length ≤ 1000000) (hk : ∀ e ∈ l, e.key.length = 32) :
    Calls Try.prog 43 #[.agg #[.slice p l.length cap, .func (.func 51) #[] #[]], .int .i64 i] w fun r w' => ∃ v', r = .returned v' ∧ w'.ownsRow w.heap.size 48 35 v' (l.length - 1) ((l.take i ++ l.drop (i + 1)).flatMap encE) ∧ v' ≠ .slice none 0 0 ∧ Below w.heap.size w w' := by
  obtain ⟨n₀, hn₀⟩ : ∃ n, w.heap.size = n := ⟨_, rfl⟩
  have cC := hid (fun (W : World) (hW : Sl W 35 encE (.slice p l.length cap) l) => eclone_all l _ W hW hk hl)
  have cD := hid (fun (W : World) (g cap : Nat) (ho : W.ownsRow n₀ 48 35 (.slice (some ⟨g, 0, none⟩) l.length cap) l.length (l.flatMap encE)) => del_any l i l.length cap n₀ g W ho rfl hi hl hk)
  have hpos : l.length ≠ 0 := by omega
  obtain ⟨n, hn⟩ : ∃ n, l.length = n := ⟨_, rfl⟩
  rw [hn] at hs cC cD hpos hi hl ⊢
  have g1 := World.alloc_heap_new w (.cells #[.slice p n cap, .func (.func 51) #[] #[]] 72)
  rw [hn₀] at g1
  have s1 := (Kept.alloc 0 w (.cells #[.slice p n cap, .func (.func 51) #[] #[]] 72)).sl hs
  have B1 : Below n₀ w (w.alloc (.cells #[.slice p n cap, .func (.func 51) #[] #[]] 72)) := by rw [← hn₀]; exact (Below.refl _ w).alloc (Nat.le_refl _) _
  have hwi : IntKind.i64.wrap ((i : Int) + 1) = ((i + 1 : Nat) : Int) := by rw [IntKind.wrap_i64]; omega
  obtain ⟨L', hL'⟩ : ∃ x, (l.take i ++ l.drop (i + 1)).flatMap encE = x := ⟨_, rfl⟩
  obtain ⟨X, hX⟩ : ∃ x, l.flatMap encE = x := ⟨_, rfl⟩
  rw [hL', hX] at cD
  rw [hX] at cC
  rw [hL']
  clear hL' hX hs
  go_enter Try.func43, Try.ntmps43
  go_upto_region 1 with (fail)
  obtain ⟨W4, hW4⟩ : ∃ W : World, W = w.alloc (.cells #[.slice p n cap, .func (.func 51) #[] #[]] 72) := ⟨_, rfl⟩
  rw [← hW4] at g1 s1 B1 ⊢
  clear hW4
  have d0 : W4.cell? ⟨n₀, 0, none⟩ = some (.slice p n cap) := cell_blk (i := 0) g1 rfl
  clear g1
  replace s1 := hid s1
  go_wp2_with (go_at_call 57; refine (cC.out _ s1.out).mono ?_; rintro r w2 ⟨v2, rfl, o2, b2⟩)
  have B2 := B1.trans (b2.mono (by have := B1.size; omega))
  have o2' := ownsRow_mono o2 (show n₀ ≤ _ by have := B1.size; omega)
  obtain ⟨g, c2, rfl⟩ : ∃ g c2, v2 = .slice (some ⟨g, 0, none⟩) n c2 := by
    rcases o2.2 with ⟨-, h⟩ | ⟨g, c2, cur, h, -⟩
    · exact absurd h hpos
    · exact ⟨g, c2, h⟩
  clear o2
  replace o2' := hid o2'
  go_wp2_with (go_at_call 58; refine (cD.out _ _ _ o2'.out).mono ?_; rintro r w3 ⟨rfl, o3, g3⟩)
  go_ret
  have B3 := B2.grown g3 (by have := B2.size; omega) (fun j e9 => own_baseI o2'.out (by rw [← e9]; rfl))
  subst hn₀
  exact ⟨_, rfl, o3, by simp, B3⟩
end Go.Proofs.Ytomgjapjeckokaa
