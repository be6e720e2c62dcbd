/- The walk of a way with a line more (printed by gen_lnf.py). -/
import Derived.Test.YtempicociampoaaGreatDoorJ0
import Derived.Test.YtempicociampoaaGreatDoorLnE
import Derived.Test.YtempicociampoaaGreatDoorJ8
import Derived.Deep.RegionHeld3
namespace Go.Proofs.YtempicociampoaaGreatDoor
open Go.RowKit Go.Shelf Go.Lib

theorem way_one (p : Option Addr) (m c : Nat) (a b : Int) : (#[.slice p m c, .int .i64 a, .int .i64 b] : Array Value).all (·.oneCell') = true := all_oneCell_toArray (cs := [.slice p m c, .int .i64 a, .int .i64 b]) (fun v h => by
 rcases List.mem_cons.1 h with rfl | h
 ·rfl
 ·rcases List.mem_cons.1 h with rfl | h
  ·rfl
  ·obtain rfl := List.mem_singleton.1 h; rfl)
section
variable {l : List It} {p : Option Addr} {cap : Nat} {wd tol : Int}
set_option maxRecDepth 100000 in
set_option maxHeartbeats 8000000 in
theorem with_any (x : Wy) (v : Value) (n : Int) (t : Nat) (w : World) (hl : Sl w 6 encIt (.slice p l.length cap) l) (hle : l.length ≤ 5000) (hn : w64 n) (ht : t ≤ l.length) (hok : ∀ x ∈ l, x.ok) (hwd : 0 ≤ wd ∧ wd ≤ 10000) (hx : Sl w 1 encI v x.br) (hb : x.bd 1000) :
  Calls Tryz.prog 68 #[.agg (parV (.slice p l.length cap) wd tol), .agg (wayV v x), .int .i64 n, .int .i64 t] w fun e w' => ∃ v', e = .returned (.tuple #[.agg (wayV v' (moreW x (liS l wd tol n t) t)), .bool (liS l wd tol n t).may]) ∧
   w'.ownsRow w.heap.size 3 1 v' (x.br.length + 1) ((x.br ++ [(t : Int)]).flatMap encI) ∧ Below w.heap.size w w' := by
 obtain ⟨i0, hi, hz0, hz1, hz2⟩ := infoN_parts
 obtain ⟨px, cx, rfl, -⟩ := hx.shape
 obtain ⟨n₀, hn₀⟩ : ∃ n, w.heap.size = n := ⟨_, rfl⟩
 rw [hn₀]
 obtain ⟨h1b, h2b, h3b, h4b, h5b⟩ := hb
 have hld := li_bd l wd tol n t
 have cL := hid (fun (W : World) (h : Below n₀ w W) => line_any (l := l) (p := p) (cap := cap) (wd := wd) (tol := tol) n t W ((Kept.of_below (hn₀ ▸ h : Below w.heap.size w W) 0).sl hl) hle hn ht hok hwd)
 have cX := hid (fun (W : World) (h : Below n₀ w W) => (Kept.of_below (hn₀ ▸ h : Below w.heap.size w W) 0).sl hx)
 obtain ⟨W1, hW1⟩ : ∃ W : World, W = ((w.alloc (.cells (parV (.slice p l.length cap) wd tol) 82)).alloc (.cells (wayV (.slice px x.br.length cx) x) 52)).alloc (.cells #[.slice none 0 0, .int .i64 0, .int .i64 0] 52) := ⟨_, rfl⟩
 have z1 : (w.alloc (.cells (parV (.slice p l.length cap) wd tol) 82)).heap.size = n₀ + 1 := by rw [World.size_alloc, hn₀]
 have z2 : ((w.alloc (.cells (parV (.slice p l.length cap) wd tol) 82)).alloc (.cells (wayV (.slice px x.br.length cx) x) 52)).heap.size = n₀ + 1 + 1 := by rw [World.size_alloc, z1]
 have g0 : W1.heap[n₀]? = some (.cells (parV (.slice p l.length cap) wd tol) 82 (0, 0)) := by
  rw [hW1]
  refine (Kept.alloc 0 _ _).same _ _ ((Kept.alloc 0 _ _).same _ _ ?_ (.inl rfl)) (.inl rfl)
  rw [← hn₀]; exact World.alloc_heap_new w _
 have g1 : W1.heap[n₀ + 1]? = some (.cells (wayV (.slice px x.br.length cx) x) 52 (0, 0)) := by
  rw [hW1]
  refine (Kept.alloc 0 _ _).same _ _ ?_ (.inl rfl)
  rw [← z1]; exact World.alloc_heap_new _ _
 have g2 : W1.heap[n₀ + 1 + 1]? = some (Obj.cells #[.slice none 0 0, .int .i64 0, .int .i64 0] 52 (0, 0)) := by rw [hW1, ← z2]; exact World.alloc_heap_new _ _
 have B1 : Below n₀ w W1 := by rw [hW1, ← hn₀]; exact (((Below.refl _ w).alloc (Nat.le_refl _) _).alloc (by simp) _).alloc (by simp; omega) _
 obtain ⟨L, hL⟩ : ∃ y, l.length = y := ⟨_, rfl⟩
 obtain ⟨LB, hLB⟩ : ∃ y, x.br.length = y := ⟨_, rfl⟩
 obtain ⟨li, hli⟩ : ∃ y, liS l wd tol n t = y := ⟨_, rfl⟩
 rw [hli] at cL hld ⊢
 obtain ⟨dem, lo, may⟩ := li
 dsimp only at cL hld ⊢
 rw [hL] at cL g0 hW1 ⊢
 rw [hLB] at cX g1 hW1 h1b ⊢
 obtain ⟨T2, hT2⟩ : ∃ y, x.tot + dem = y := ⟨_, rfl⟩
 have hTw : IntKind.i64.wrap (x.tot + dem) = T2 := by rw [hT2, IntKind.wrap_i64]; omega
 have hOw : IntKind.i64.wrap (x.ov + 1) = x.ov + 1 := by rw [IntKind.wrap_i64]; omega
 have hans := hid (fun (v' : Value) => (show wayV v' (moreW x ⟨dem, lo, may⟩ t) = #[v', .int .i64 T2, .int .i64 (x.ov + if lo = true then 1 else 0)] from by unfold wayV moreW; dsimp only; rw [hT2]))
 have hr0 := range_blk (cs := [Value.slice p L cap, .int .i64 wd, .int .i64 tol]) g0
 have hz0' : n₀ + 1 + 1 < W1.heap.size := (Array.getElem?_eq_some_iff.1 g2).1
 unfold parV at cL hW1 ⊢
 unfold wayV at hW1
 clear hx hl hT2 z1 z2 hli
 rw [show wayV (.slice px LB cx) x = #[.slice px LB cx, .int .i64 x.tot, .int .i64 x.ov] from rfl]
 go_enter Tryz.func68, Tryz.ntmps68
 go_upto_region 1 with (fail)
 rw [← hW1]
 clear hW1
 try simp only [hn₀]
 go_wp2_with (refine wpList_load_mid rfl 82 _ rfl n₀ 0 rfl [Value.slice p L cap, .int .i64 wd, .int .i64 tol] _ hr0 Tryz.underlying82 rfl (by kernel_rfl) ?_)
 refine (cL.out _ B1).mono ?_
 rintro r W4 ⟨rfl, b4⟩
 have B4d : Below n₀ w W4.drew := (B1.trans (b4.mono (by omega))).drewN 1
 have g1d : W4.drew.heap[n₀ + 1]? = _ := (Kept.of_below b4 0).same _ _ g1 (.inl rfl)
 have g2d : W4.drew.heap[n₀ + 1 + 1]? = _ := (Kept.of_below b4 0).same _ _ g2 (.inl rfl)
 have hz4 : n₀ + 1 + 1 < W4.drew.heap.size := (Array.getElem?_eq_some_iff.1 g2d).1
 replace hz4 : n₀ ≤ W4.drew.heap.size := by omega
 have hz5 : n₀ + 1 + 1 < W4.drew.heap.size := (Array.getElem?_eq_some_iff.1 g2d).1
 have sX := cX.out _ B4d
 have hst : (fun W => Below W4.drew.heap.size W4.drew W) W4.drew := Below.refl _ _
 have cC := hid (fun W (h : Below W4.drew.heap.size W4.drew W) => by have h9 := cloneI_any x.br (.slice px LB cx) W ((Kept.of_below h 0).sl sX) (by omega); rw [hLB] at h9; exact h9)
 have kV := hid (fun W (h : Below W4.drew.heap.size W4.drew W) => (show W.cell? ⟨n₀ + 1, 0, none⟩ = some (.slice px LB cx) from cell_blk (i := 0) ((Kept.of_below h 0).same _ _ g1d (.inl rfl)) rfl))
 have k1 := hid (fun W (h : Below W4.drew.heap.size W4.drew W) => (show W.cell? ⟨n₀ + 1, 1, none⟩ = some (.int .i64 x.tot) from cell_blk (i := 1) ((Kept.of_below h 0).same _ _ g1d (.inl rfl)) rfl))
 have k2 := hid (fun W (h : Below W4.drew.heap.size W4.drew W) => (show W.cell? ⟨n₀ + 1, 2, none⟩ = some (.int .i64 x.ov) from cell_blk (i := 2) ((Kept.of_below h 0).same _ _ g1d (.inl rfl)) rfl))
 clear cL b4 g0 g1 g2 B1 hr0 g1d sX cX hld
 go_upto_region 2 with (fail)
 refine wp_region_held_drew (S := (fun W => Below W4.drew.heap.size W4.drew W)) (by kernel_rfl) hst (fun hHeld => ?_)
 generalize W4.drew = W5 at *
 refine tkH 0 (some 22) ?_ rfl (Or.inl ⟨by rfl, ?_⟩) ?_; rotate_left
 ·intro w hSw; (try dsimp only at hSw); go_simp <;> with_reducible rfl
 try simp only [Act.put, aS, aZ, aC]
 refine tkH 1 (some 23) ?_ rfl (Or.inl ⟨by rfl, ?_⟩) ?_; rotate_left
 ·intro w hSw; (try dsimp only at hSw); have h9 := kV.out _ hSw; go_simp <;> with_reducible rfl
 try simp only [Act.put, aS, aZ, aC]
 refine tkH 3 (some 25) ?_ rfl (Or.inl ⟨by rfl, ?_⟩) ?_; rotate_left
 ·intro w hSw; (try dsimp only at hSw); go_simp <;> with_reducible rfl
 try simp only [Act.put, aS, aZ, aC]
 refine tkH 6 (some 28) ?_ rfl (Or.inl ⟨by rfl, ?_⟩) ?_; rotate_left
 ·intro w hSw; (try dsimp only at hSw); go_simp <;> with_reducible rfl
 try simp only [Act.put, aS, aZ, aC]
 refine tkH 7 (some 29) ?_ rfl (Or.inl ⟨by rfl, ?_⟩) ?_; rotate_left
 ·intro w hSw; (try dsimp only at hSw); have h9 := k1.out _ hSw; go_simp <;> with_reducible rfl
 try simp only [Act.put, aS, aZ, aC]
 refine tkH 8 (some 30) ?_ rfl (Or.inl ⟨by rfl, ?_⟩) ?_; rotate_left
 ·intro w hSw; (try dsimp only at hSw); go_simp <;> with_reducible rfl
 try simp only [Act.put, aS, aZ, aC]
 refine tkH 9 (some 31) ?_ rfl (Or.inl ⟨by rfl, ?_⟩) ?_; rotate_left
 ·intro w hSw; (try dsimp only at hSw); go_simp <;> with_reducible rfl
 try simp only [Act.put, aS, aZ, aC]
 refine tkH 10 (some 32) ?_ rfl (Or.inl ⟨by rfl, ?_⟩) ?_; rotate_left
 ·intro w hSw; (try dsimp only at hSw); go_simp <;> with_reducible rfl
 try simp only [Act.put, aS, aZ, aC]
 refine tkH 11 (some 33) ?_ rfl (Or.inl ⟨by rfl, ?_⟩) ?_; rotate_left
 ·intro w hSw; (try dsimp only at hSw); have h9 := k2.out _ hSw; go_simp <;> with_reducible rfl
 try simp only [Act.put, aS, aZ, aC]
 refine wpAnyH_ready (rs := [2, 4, 13]) (by kernel_rfl) (by simp) ?_
 refine AllReadyH.cons (o := ⟨some 24, _, _, _, _, _⟩) rfl (fun K hK => ?_) ?_
 ·go_simp
  refine (cC.out _ hHeld).mono ?_
  rintro r w7 ⟨v7, rfl, o7, b7⟩
  have b8 := hHeld.trans (b7.mono hHeld.size)
  replace o7 := own_mono o7 hHeld.size
  clear hHeld b7
  refine hK.out _ _ (b8) (fun hHeld => ?_)
  clear hK K
  try simp only [Act.put, aS, aZ, aC]
  refine wpAnyH_ready (rs := [4, 13]) (by kernel_rfl) (by simp) ?_
  refine AllReadyH.cons (o := ⟨some 26, _, _, _, _, _⟩) rfl (fun K hK => ?_) ?_
  ·go_simp
   obtain ⟨nb4, hn9⟩ : ∃ n, w7.heap.size = n := ⟨_, rfl⟩
   have h4 := World.alloc_heap_new w7 (.cells #[.int .i64 t] 3)
   rw [hn9] at h4
   have bA := hHeld.alloc hHeld.size (.cells #[.int .i64 t] 3)
   have kA := Kept.alloc 0 w7 (.cells #[.int .i64 t] 3)
   replace o7 := kA.owns o7
   try rw [hn9]
   obtain ⟨x4, hx9⟩ : ∃ W : World, W = w7.alloc (.cells #[.int .i64 t] 3) := ⟨_, rfl⟩
   rw [← hx9] at h4 bA o7 ⊢
   clear hx9 kA hHeld hn9
   refine hK.out _ _ (bA) (fun hHeld => ?_)
   clear hK K
   try simp only [Act.put, aS, aZ, aC]
   refine wpAnyH_ready (rs := [5, 13]) (by kernel_rfl) (by simp) ?_
   refine AllReadyH.cons (o := ⟨some 27, _, _, _, _, _⟩) rfl (fun K hK => ?_) ?_
   ·refine (if_pos (by rfl)).mpr ?_
    refine wp_append_slG _ _ 50 rfl W5.heap.size 3 i0 (.int .i64 0) 1 8 Tryz.underlying50 hi hz0 hz1 hz2 rfl (by decide) _ _ _ rfl o7 encI _ [(t : Int)] rfl (sl_i1 h4) (encI_enc _) (by unfold maxLen; simp only [List.length_singleton]; omega) (by simp only [List.length_singleton]; omega) hHeld.size (fun v9 w9 o9 hg9 n9 => hK.out _ _ ?_ (fun hHeld => ?_))
    ·exact hHeld.grown hg9 hHeld.size (fun j e9 => own_base2 o7 e9)
    obtain ⟨p9, c9, rfl, -, -⟩ := owns_shape o9
    clear o7 hg9 n9 h4
    clear hK K
    try simp only [Act.put, aS, aZ, aC]
    refine tkH 12 (some 34) ?_ rfl (Or.inl ⟨by rfl, ?_⟩) ?_; rotate_left
    ·intro w hSw; (try dsimp only at hSw); go_simp <;> with_reducible rfl
    try simp only [Act.put, aS, aZ, aC]
    refine wpAnyH_ready (rs := [13]) (by kernel_rfl) (by simp) ?_
    refine AllReadyH.cons (o := ⟨some 13, _, _, _, _, _⟩) rfl (fun K hK => ?_) AllReadyH.nil
    go_simp
    obtain ⟨n13, hn9⟩ : ∃ n, w9.heap.size = n := ⟨_, rfl⟩
    have g13 := World.alloc_heap_new w9 (.cells #[.slice none 0 0, .int .i64 0, .int .i64 0] 52)
    rw [hn9] at g13
    have bA := hHeld.alloc hHeld.size (.cells #[.slice none 0 0, .int .i64 0, .int .i64 0] 52)
    have kA := Kept.alloc 0 w9 (.cells #[.slice none 0 0, .int .i64 0, .int .i64 0] 52)
    have hz13 : W5.heap.size ≤ n13 := by rw [← hn9]; exact hHeld.size
    replace o9 := kA.owns o9
    try rw [hn9]
    obtain ⟨x13, hx9⟩ : ∃ W : World, W = w9.alloc (.cells #[.slice none 0 0, .int .i64 0, .int .i64 0] 52) := ⟨_, rfl⟩
    rw [← hx9] at g13 bA o9 ⊢
    clear hx9 kA hHeld hn9
    refine hK.out _ _ (bA) (fun hHeld => ?_)
    clear hK K
    try simp only [Act.put, aS, aZ, aC]
    refine wpAnyH_ready (rs := [14]) (by kernel_rfl) (by simp) ?_
    refine AllReadyH.cons (o := ⟨none, _, _, _, _, _⟩) rfl (fun K hK => ?_) AllReadyH.nil
    refine (if_pos (by rfl)).mpr ?_
    refine wp_store_mid 52 _ _ rfl n13 0 #[.slice p9 (LB + 1) c9, .int .i64 T2, .int .i64 x.ov] rfl rfl (there_blk g13 rfl) (by kernel_rfl) (way_one _ _ _ _ _) ?_
    refine hK.out _ _ (below_setG hz13 _ _ _ hHeld) (fun hHeld => ?_)
    clear hK K
    try simp only [Act.put]
    refine wpAnyH_done (by kernel_rfl) ?_ _
    have uX := (Upd.refl g13).setCells (#[.slice p9 (LB + 1) c9, .int .i64 T2, .int .i64 x.ov] : Array Value).toList rfl
    have o10 := upd_own2 uX (own_ty2 o9 g13 (by decide)) o9
    have g14 := uX.here
    rw [Array.toArray_toList] at g14
    have BX := B4d.trans (hHeld.mono hz4)
    have g2x := (Kept.of_below hHeld 0).same _ _ g2d (.inl rfl)
    obtain ⟨W9, hW9⟩ : ∃ W : World, W = x13.setCells n13 0 (#[.slice p9 (LB + 1) c9, .int .i64 T2, .int .i64 x.ov] : Array Value).toList := ⟨_, rfl⟩
    rw [← hW9] at o10 g14 BX g2x ⊢
    clear hW9 uX o9 g13 hHeld hst cC kV k1 k2
    obtain ⟨n₄, hn₄⟩ : ∃ n, W5.heap.size = n := ⟨_, rfl⟩
    rw [hn₄] at o10 hz13 hz4
    cases lo with
    | true =>
     have d2 : W9.cell? ⟨n13, 2, none⟩ = some (.int .i64 x.ov) := cell_blk (i := 2) g14 rfl
     have f2 := frozen_blk (i := 2) g14
     have g15 := setCell_blk (i := 2) (x := .int .i64 (x.ov + 1)) g14
     have o11 : (W9.setCell ⟨n13, 2, none⟩ (.int .i64 (x.ov + 1))).ownsRow n₄ 3 1 (.slice p9 (LB + 1) c9) (LB + 1) _ := upd_own2 ((Upd.refl g14).set (i := 2) (.int .i64 (x.ov + 1))) (own_ty2 o10 g14 (by decide)) o10
     have BY := BX.setCell (p := ⟨n13, 2, none⟩) (show n₀ ≤ n13 by omega) (.int .i64 (x.ov + 1))
     have g2y := (setCell_off (b := n13) (i := 2) (x := .int .i64 (x.ov + 1)) (show n₀ + 1 + 1 ≠ n13 by omega)).trans g2x
     go_upto_region 5 with (fail)
     obtain ⟨WY, hWY⟩ : ∃ W : World, W = W9.setCell ⟨n13, 2, none⟩ (.int .i64 (x.ov + 1)) := ⟨_, rfl⟩
     rw [← hWY] at g15 o11 BY g2y ⊢
     clear hWY
     have hr := range_blk (cs := [Value.slice p9 (LB + 1) c9, .int .i64 T2, .int .i64 (x.ov + 1)]) g15
     have uR := (Upd.refl g2y).setCells (#[.slice p9 (LB + 1) c9, .int .i64 T2, .int .i64 (x.ov + 1)] : Array Value).toList rfl
     have oR := upd_own2 uR (own_ty2 o11 g2y (by decide)) o11
     have BR := uR.below BY (by omega)
     have hRes := uR.here
     rw [Array.toArray_toList] at hRes
     have htR : WY.there (n₀ + 1 + 1) 0 (#[.slice p9 (LB + 1) c9, .int .i64 T2, .int .i64 (x.ov + 1)] : Array Value).size := there_blk g2y rfl
     replace oR := hid oR
     replace BR := hid BR
     replace hRes := hid hRes
     go_wp2_with (first | refine wpList_load_mid rfl 52 _ rfl n13 0 rfl [Value.slice p9 (LB + 1) c9, .int .i64 T2, .int .i64 (x.ov + 1)] _ hr Tryz.underlying52 rfl (by kernel_rfl) ?_ | refine wpList_store_mid rfl 52 _ _ rfl (n₀ + 1 + 1) 0 #[.slice p9 (LB + 1) c9, .int .i64 T2, .int .i64 (x.ov + 1)] rfl rfl htR (by kernel_rfl) (way_one _ _ _ _ _) ?_)
     exact outRowT2 (ty := 52) rfl hRes.out rfl rfl rfl (by kernel_rfl) (by kernel_rfl) ⟨.slice p9 (LB + 1) c9, by (rw [hans.out]; first | rfl | simp), by first | exact own_mono oR.out (by omega) | (rw [List.flatMap_append]; exact own_mono oR.out (by omega)) | simpa using own_mono oR.out (show n₀ ≤ n₄ by omega), BR.out⟩
    | false =>
     have hr := range_blk (cs := [Value.slice p9 (LB + 1) c9, .int .i64 T2, .int .i64 x.ov]) g14
     have uR := (Upd.refl g2x).setCells (#[.slice p9 (LB + 1) c9, .int .i64 T2, .int .i64 x.ov] : Array Value).toList rfl
     have oR := upd_own2 uR (own_ty2 o10 g2x (by decide)) o10
     have BR := uR.below BX (by omega)
     have hRes := uR.here
     rw [Array.toArray_toList] at hRes
     have htR : W9.there (n₀ + 1 + 1) 0 (#[.slice p9 (LB + 1) c9, .int .i64 T2, .int .i64 x.ov] : Array Value).size := there_blk g2x rfl
     replace oR := hid oR
     replace BR := hid BR
     replace hRes := hid hRes
     go_wp2_with (first | refine wpList_load_mid rfl 52 _ rfl n13 0 rfl [Value.slice p9 (LB + 1) c9, .int .i64 T2, .int .i64 x.ov] _ hr Tryz.underlying52 rfl (by kernel_rfl) ?_ | refine wpList_store_mid rfl 52 _ _ rfl (n₀ + 1 + 1) 0 #[.slice p9 (LB + 1) c9, .int .i64 T2, .int .i64 x.ov] rfl rfl htR (by kernel_rfl) (way_one _ _ _ _ _) ?_)
     exact outRowT2 (ty := 52) rfl hRes.out rfl rfl rfl (by kernel_rfl) (by kernel_rfl) ⟨.slice p9 (LB + 1) c9, by (rw [hans.out]; first | rfl | simp), by first | exact own_mono oR.out (by omega) | (rw [List.flatMap_append]; exact own_mono oR.out (by omega)) | simpa using own_mono oR.out (show n₀ ≤ n₄ by omega), BR.out⟩
   refine AllReadyH.cons (o := ⟨some 13, _, _, _, _, _⟩) rfl (fun K hK => ?_) AllReadyH.nil
   go_simp
   obtain ⟨n13, hn9⟩ : ∃ n, x4.heap.size = n := ⟨_, rfl⟩
   have g13 := World.alloc_heap_new x4 (.cells #[.slice none 0 0, .int .i64 0, .int .i64 0] 52)
   rw [hn9] at g13
   have bA := hHeld.alloc hHeld.size (.cells #[.slice none 0 0, .int .i64 0, .int .i64 0] 52)
   have kA := Kept.alloc 0 x4 (.cells #[.slice none 0 0, .int .i64 0, .int .i64 0] 52)
   have hz13 : W5.heap.size ≤ n13 := by rw [← hn9]; exact hHeld.size
   replace o7 := kA.owns o7
   replace h4 := kA.same _ _ h4 (.inl rfl)
   try rw [hn9]
   obtain ⟨x13, hx9⟩ : ∃ W : World, W = x4.alloc (.cells #[.slice none 0 0, .int .i64 0, .int .i64 0] 52) := ⟨_, rfl⟩
   rw [← hx9] at g13 bA o7 h4 ⊢
   clear hx9 kA hHeld hn9
   refine hK.out _ _ (bA) (fun hHeld => ?_)
   clear hK K
   try simp only [Act.put, aS, aZ, aC]
   refine wpAnyH_ready (rs := [5]) (by kernel_rfl) (by simp) ?_
   refine AllReadyH.cons (o := ⟨some 27, _, _, _, _, _⟩) rfl (fun K hK => ?_) AllReadyH.nil
   refine (if_pos (by rfl)).mpr ?_
   refine wp_append_slG _ _ 50 rfl W5.heap.size 3 i0 (.int .i64 0) 1 8 Tryz.underlying50 hi hz0 hz1 hz2 rfl (by decide) _ _ _ rfl o7 encI _ [(t : Int)] rfl (sl_i1 h4) (encI_enc _) (by unfold maxLen; simp only [List.length_singleton]; omega) (by simp only [List.length_singleton]; omega) hHeld.size (fun v9 w9 o9 hg9 n9 => hK.out _ _ ?_ (fun hHeld => ?_))
   ·exact hHeld.grown hg9 hHeld.size (fun j e9 => own_base2 o7 e9)
   replace g13 := (hg9.block n13 (Array.getElem?_eq_some_iff.1 g13).1 (fun e9 => own_ty2 o7 g13 (by decide) e9.symm)).trans g13
   obtain ⟨p9, c9, rfl, -, -⟩ := owns_shape o9
   clear o7 hg9 n9 h4
   clear hK K
   try simp only [Act.put, aS, aZ, aC]
   refine tkH 12 (some 34) ?_ rfl (Or.inl ⟨by rfl, ?_⟩) ?_; rotate_left
   ·intro w hSw; (try dsimp only at hSw); go_simp <;> with_reducible rfl
   try simp only [Act.put, aS, aZ, aC]
   refine wpAnyH_ready (rs := [14]) (by kernel_rfl) (by simp) ?_
   refine AllReadyH.cons (o := ⟨none, _, _, _, _, _⟩) rfl (fun K hK => ?_) AllReadyH.nil
   refine (if_pos (by rfl)).mpr ?_
   refine wp_store_mid 52 _ _ rfl n13 0 #[.slice p9 (LB + 1) c9, .int .i64 T2, .int .i64 x.ov] rfl rfl (there_blk g13 rfl) (by kernel_rfl) (way_one _ _ _ _ _) ?_
   refine hK.out _ _ (below_setG hz13 _ _ _ hHeld) (fun hHeld => ?_)
   clear hK K
   try simp only [Act.put]
   refine wpAnyH_done (by kernel_rfl) ?_ _
   have uX := (Upd.refl g13).setCells (#[.slice p9 (LB + 1) c9, .int .i64 T2, .int .i64 x.ov] : Array Value).toList rfl
   have o10 := upd_own2 uX (own_ty2 o9 g13 (by decide)) o9
   have g14 := uX.here
   rw [Array.toArray_toList] at g14
   have BX := B4d.trans (hHeld.mono hz4)
   have g2x := (Kept.of_below hHeld 0).same _ _ g2d (.inl rfl)
   obtain ⟨W9, hW9⟩ : ∃ W : World, W = w9.setCells n13 0 (#[.slice p9 (LB + 1) c9, .int .i64 T2, .int .i64 x.ov] : Array Value).toList := ⟨_, rfl⟩
   rw [← hW9] at o10 g14 BX g2x ⊢
   clear hW9 uX o9 g13 hHeld hst cC kV k1 k2
   obtain ⟨n₄, hn₄⟩ : ∃ n, W5.heap.size = n := ⟨_, rfl⟩
   rw [hn₄] at o10 hz13 hz4
   cases lo with
   | true =>
    have d2 : W9.cell? ⟨n13, 2, none⟩ = some (.int .i64 x.ov) := cell_blk (i := 2) g14 rfl
    have f2 := frozen_blk (i := 2) g14
    have g15 := setCell_blk (i := 2) (x := .int .i64 (x.ov + 1)) g14
    have o11 : (W9.setCell ⟨n13, 2, none⟩ (.int .i64 (x.ov + 1))).ownsRow n₄ 3 1 (.slice p9 (LB + 1) c9) (LB + 1) _ := upd_own2 ((Upd.refl g14).set (i := 2) (.int .i64 (x.ov + 1))) (own_ty2 o10 g14 (by decide)) o10
    have BY := BX.setCell (p := ⟨n13, 2, none⟩) (show n₀ ≤ n13 by omega) (.int .i64 (x.ov + 1))
    have g2y := (setCell_off (b := n13) (i := 2) (x := .int .i64 (x.ov + 1)) (show n₀ + 1 + 1 ≠ n13 by omega)).trans g2x
    go_upto_region 5 with (fail)
    obtain ⟨WY, hWY⟩ : ∃ W : World, W = W9.setCell ⟨n13, 2, none⟩ (.int .i64 (x.ov + 1)) := ⟨_, rfl⟩
    rw [← hWY] at g15 o11 BY g2y ⊢
    clear hWY
    have hr := range_blk (cs := [Value.slice p9 (LB + 1) c9, .int .i64 T2, .int .i64 (x.ov + 1)]) g15
    have uR := (Upd.refl g2y).setCells (#[.slice p9 (LB + 1) c9, .int .i64 T2, .int .i64 (x.ov + 1)] : Array Value).toList rfl
    have oR := upd_own2 uR (own_ty2 o11 g2y (by decide)) o11
    have BR := uR.below BY (by omega)
    have hRes := uR.here
    rw [Array.toArray_toList] at hRes
    have htR : WY.there (n₀ + 1 + 1) 0 (#[.slice p9 (LB + 1) c9, .int .i64 T2, .int .i64 (x.ov + 1)] : Array Value).size := there_blk g2y rfl
    replace oR := hid oR
    replace BR := hid BR
    replace hRes := hid hRes
    go_wp2_with (first | refine wpList_load_mid rfl 52 _ rfl n13 0 rfl [Value.slice p9 (LB + 1) c9, .int .i64 T2, .int .i64 (x.ov + 1)] _ hr Tryz.underlying52 rfl (by kernel_rfl) ?_ | refine wpList_store_mid rfl 52 _ _ rfl (n₀ + 1 + 1) 0 #[.slice p9 (LB + 1) c9, .int .i64 T2, .int .i64 (x.ov + 1)] rfl rfl htR (by kernel_rfl) (way_one _ _ _ _ _) ?_)
    exact outRowT2 (ty := 52) rfl hRes.out rfl rfl rfl (by kernel_rfl) (by kernel_rfl) ⟨.slice p9 (LB + 1) c9, by (rw [hans.out]; first | rfl | simp), by first | exact own_mono oR.out (by omega) | (rw [List.flatMap_append]; exact own_mono oR.out (by omega)) | simpa using own_mono oR.out (show n₀ ≤ n₄ by omega), BR.out⟩
   | false =>
    have hr := range_blk (cs := [Value.slice p9 (LB + 1) c9, .int .i64 T2, .int .i64 x.ov]) g14
    have uR := (Upd.refl g2x).setCells (#[.slice p9 (LB + 1) c9, .int .i64 T2, .int .i64 x.ov] : Array Value).toList rfl
    have oR := upd_own2 uR (own_ty2 o10 g2x (by decide)) o10
    have BR := uR.below BX (by omega)
    have hRes := uR.here
    rw [Array.toArray_toList] at hRes
    have htR : W9.there (n₀ + 1 + 1) 0 (#[.slice p9 (LB + 1) c9, .int .i64 T2, .int .i64 x.ov] : Array Value).size := there_blk g2x rfl
    replace oR := hid oR
    replace BR := hid BR
    replace hRes := hid hRes
    go_wp2_with (first | refine wpList_load_mid rfl 52 _ rfl n13 0 rfl [Value.slice p9 (LB + 1) c9, .int .i64 T2, .int .i64 x.ov] _ hr Tryz.underlying52 rfl (by kernel_rfl) ?_ | refine wpList_store_mid rfl 52 _ _ rfl (n₀ + 1 + 1) 0 #[.slice p9 (LB + 1) c9, .int .i64 T2, .int .i64 x.ov] rfl rfl htR (by kernel_rfl) (way_one _ _ _ _ _) ?_)
    exact outRowT2 (ty := 52) rfl hRes.out rfl rfl rfl (by kernel_rfl) (by kernel_rfl) ⟨.slice p9 (LB + 1) c9, by (rw [hans.out]; first | rfl | simp), by first | exact own_mono oR.out (by omega) | (rw [List.flatMap_append]; exact own_mono oR.out (by omega)) | simpa using own_mono oR.out (show n₀ ≤ n₄ by omega), BR.out⟩
  refine AllReadyH.cons (o := ⟨some 13, _, _, _, _, _⟩) rfl (fun K hK => ?_) AllReadyH.nil
  go_simp
  obtain ⟨n13, hn9⟩ : ∃ n, w7.heap.size = n := ⟨_, rfl⟩
  have g13 := World.alloc_heap_new w7 (.cells #[.slice none 0 0, .int .i64 0, .int .i64 0] 52)
  rw [hn9] at g13
  have bA := hHeld.alloc hHeld.size (.cells #[.slice none 0 0, .int .i64 0, .int .i64 0] 52)
  have kA := Kept.alloc 0 w7 (.cells #[.slice none 0 0, .int .i64 0, .int .i64 0] 52)
  have hz13 : W5.heap.size ≤ n13 := by rw [← hn9]; exact hHeld.size
  replace o7 := kA.owns o7
  try rw [hn9]
  obtain ⟨x13, hx9⟩ : ∃ W : World, W = w7.alloc (.cells #[.slice none 0 0, .int .i64 0, .int .i64 0] 52) := ⟨_, rfl⟩
  rw [← hx9] at g13 bA o7 ⊢
  clear hx9 kA hHeld hn9
  refine hK.out _ _ (bA) (fun hHeld => ?_)
  clear hK K
  try simp only [Act.put, aS, aZ, aC]
  refine wpAnyH_ready (rs := [4]) (by kernel_rfl) (by simp) ?_
  refine AllReadyH.cons (o := ⟨some 26, _, _, _, _, _⟩) rfl (fun K hK => ?_) AllReadyH.nil
  go_simp
  obtain ⟨nb4, hn9⟩ : ∃ n, x13.heap.size = n := ⟨_, rfl⟩
  have h4 := World.alloc_heap_new x13 (.cells #[.int .i64 t] 3)
  rw [hn9] at h4
  have bA := hHeld.alloc hHeld.size (.cells #[.int .i64 t] 3)
  have kA := Kept.alloc 0 x13 (.cells #[.int .i64 t] 3)
  replace o7 := kA.owns o7
  replace g13 := kA.same _ _ g13 (.inl rfl)
  try rw [hn9]
  obtain ⟨x4, hx9⟩ : ∃ W : World, W = x13.alloc (.cells #[.int .i64 t] 3) := ⟨_, rfl⟩
  rw [← hx9] at h4 bA o7 g13 ⊢
  clear hx9 kA hHeld hn9
  refine hK.out _ _ (bA) (fun hHeld => ?_)
  clear hK K
  try simp only [Act.put, aS, aZ, aC]
  refine wpAnyH_ready (rs := [5]) (by kernel_rfl) (by simp) ?_
  refine AllReadyH.cons (o := ⟨some 27, _, _, _, _, _⟩) rfl (fun K hK => ?_) AllReadyH.nil
  refine (if_pos (by rfl)).mpr ?_
  refine wp_append_slG _ _ 50 rfl W5.heap.size 3 i0 (.int .i64 0) 1 8 Tryz.underlying50 hi hz0 hz1 hz2 rfl (by decide) _ _ _ rfl o7 encI _ [(t : Int)] rfl (sl_i1 h4) (encI_enc _) (by unfold maxLen; simp only [List.length_singleton]; omega) (by simp only [List.length_singleton]; omega) hHeld.size (fun v9 w9 o9 hg9 n9 => hK.out _ _ ?_ (fun hHeld => ?_))
  ·exact hHeld.grown hg9 hHeld.size (fun j e9 => own_base2 o7 e9)
  replace g13 := (hg9.block n13 (Array.getElem?_eq_some_iff.1 g13).1 (fun e9 => own_ty2 o7 g13 (by decide) e9.symm)).trans g13
  obtain ⟨p9, c9, rfl, -, -⟩ := owns_shape o9
  clear o7 hg9 n9 h4
  clear hK K
  try simp only [Act.put, aS, aZ, aC]
  refine tkH 12 (some 34) ?_ rfl (Or.inl ⟨by rfl, ?_⟩) ?_; rotate_left
  ·intro w hSw; (try dsimp only at hSw); go_simp <;> with_reducible rfl
  try simp only [Act.put, aS, aZ, aC]
  refine wpAnyH_ready (rs := [14]) (by kernel_rfl) (by simp) ?_
  refine AllReadyH.cons (o := ⟨none, _, _, _, _, _⟩) rfl (fun K hK => ?_) AllReadyH.nil
  refine (if_pos (by rfl)).mpr ?_
  refine wp_store_mid 52 _ _ rfl n13 0 #[.slice p9 (LB + 1) c9, .int .i64 T2, .int .i64 x.ov] rfl rfl (there_blk g13 rfl) (by kernel_rfl) (way_one _ _ _ _ _) ?_
  refine hK.out _ _ (below_setG hz13 _ _ _ hHeld) (fun hHeld => ?_)
  clear hK K
  try simp only [Act.put]
  refine wpAnyH_done (by kernel_rfl) ?_ _
  have uX := (Upd.refl g13).setCells (#[.slice p9 (LB + 1) c9, .int .i64 T2, .int .i64 x.ov] : Array Value).toList rfl
  have o10 := upd_own2 uX (own_ty2 o9 g13 (by decide)) o9
  have g14 := uX.here
  rw [Array.toArray_toList] at g14
  have BX := B4d.trans (hHeld.mono hz4)
  have g2x := (Kept.of_below hHeld 0).same _ _ g2d (.inl rfl)
  obtain ⟨W9, hW9⟩ : ∃ W : World, W = w9.setCells n13 0 (#[.slice p9 (LB + 1) c9, .int .i64 T2, .int .i64 x.ov] : Array Value).toList := ⟨_, rfl⟩
  rw [← hW9] at o10 g14 BX g2x ⊢
  clear hW9 uX o9 g13 hHeld hst cC kV k1 k2
  obtain ⟨n₄, hn₄⟩ : ∃ n, W5.heap.size = n := ⟨_, rfl⟩
  rw [hn₄] at o10 hz13 hz4
  cases lo with
  | true =>
   have d2 : W9.cell? ⟨n13, 2, none⟩ = some (.int .i64 x.ov) := cell_blk (i := 2) g14 rfl
   have f2 := frozen_blk (i := 2) g14
   have g15 := setCell_blk (i := 2) (x := .int .i64 (x.ov + 1)) g14
   have o11 : (W9.setCell ⟨n13, 2, none⟩ (.int .i64 (x.ov + 1))).ownsRow n₄ 3 1 (.slice p9 (LB + 1) c9) (LB + 1) _ := upd_own2 ((Upd.refl g14).set (i := 2) (.int .i64 (x.ov + 1))) (own_ty2 o10 g14 (by decide)) o10
   have BY := BX.setCell (p := ⟨n13, 2, none⟩) (show n₀ ≤ n13 by omega) (.int .i64 (x.ov + 1))
   have g2y := (setCell_off (b := n13) (i := 2) (x := .int .i64 (x.ov + 1)) (show n₀ + 1 + 1 ≠ n13 by omega)).trans g2x
   go_upto_region 5 with (fail)
   obtain ⟨WY, hWY⟩ : ∃ W : World, W = W9.setCell ⟨n13, 2, none⟩ (.int .i64 (x.ov + 1)) := ⟨_, rfl⟩
   rw [← hWY] at g15 o11 BY g2y ⊢
   clear hWY
   have hr := range_blk (cs := [Value.slice p9 (LB + 1) c9, .int .i64 T2, .int .i64 (x.ov + 1)]) g15
   have uR := (Upd.refl g2y).setCells (#[.slice p9 (LB + 1) c9, .int .i64 T2, .int .i64 (x.ov + 1)] : Array Value).toList rfl
   have oR := upd_own2 uR (own_ty2 o11 g2y (by decide)) o11
   have BR := uR.below BY (by omega)
   have hRes := uR.here
   rw [Array.toArray_toList] at hRes
   have htR : WY.there (n₀ + 1 + 1) 0 (#[.slice p9 (LB + 1) c9, .int .i64 T2, .int .i64 (x.ov + 1)] : Array Value).size := there_blk g2y rfl
   replace oR := hid oR
   replace BR := hid BR
   replace hRes := hid hRes
   go_wp2_with (first | refine wpList_load_mid rfl 52 _ rfl n13 0 rfl [Value.slice p9 (LB + 1) c9, .int .i64 T2, .int .i64 (x.ov + 1)] _ hr Tryz.underlying52 rfl (by kernel_rfl) ?_ | refine wpList_store_mid rfl 52 _ _ rfl (n₀ + 1 + 1) 0 #[.slice p9 (LB + 1) c9, .int .i64 T2, .int .i64 (x.ov + 1)] rfl rfl htR (by kernel_rfl) (way_one _ _ _ _ _) ?_)
   exact outRowT2 (ty := 52) rfl hRes.out rfl rfl rfl (by kernel_rfl) (by kernel_rfl) ⟨.slice p9 (LB + 1) c9, by (rw [hans.out]; first | rfl | simp), by first | exact own_mono oR.out (by omega) | (rw [List.flatMap_append]; exact own_mono oR.out (by omega)) | simpa using own_mono oR.out (show n₀ ≤ n₄ by omega), BR.out⟩
  | false =>
   have hr := range_blk (cs := [Value.slice p9 (LB + 1) c9, .int .i64 T2, .int .i64 x.ov]) g14
   have uR := (Upd.refl g2x).setCells (#[.slice p9 (LB + 1) c9, .int .i64 T2, .int .i64 x.ov] : Array Value).toList rfl
   have oR := upd_own2 uR (own_ty2 o10 g2x (by decide)) o10
   have BR := uR.below BX (by omega)
   have hRes := uR.here
   rw [Array.toArray_toList] at hRes
   have htR : W9.there (n₀ + 1 + 1) 0 (#[.slice p9 (LB + 1) c9, .int .i64 T2, .int .i64 x.ov] : Array Value).size := there_blk g2x rfl
   replace oR := hid oR
   replace BR := hid BR
   replace hRes := hid hRes
   go_wp2_with (first | refine wpList_load_mid rfl 52 _ rfl n13 0 rfl [Value.slice p9 (LB + 1) c9, .int .i64 T2, .int .i64 x.ov] _ hr Tryz.underlying52 rfl (by kernel_rfl) ?_ | refine wpList_store_mid rfl 52 _ _ rfl (n₀ + 1 + 1) 0 #[.slice p9 (LB + 1) c9, .int .i64 T2, .int .i64 x.ov] rfl rfl htR (by kernel_rfl) (way_one _ _ _ _ _) ?_)
   exact outRowT2 (ty := 52) rfl hRes.out rfl rfl rfl (by kernel_rfl) (by kernel_rfl) ⟨.slice p9 (LB + 1) c9, by (rw [hans.out]; first | rfl | simp), by first | exact own_mono oR.out (by omega) | (rw [List.flatMap_append]; exact own_mono oR.out (by omega)) | simpa using own_mono oR.out (show n₀ ≤ n₄ by omega), BR.out⟩
 refine AllReadyH.cons (o := ⟨some 26, _, _, _, _, _⟩) rfl (fun K hK => ?_) ?_
 ·go_simp
  obtain ⟨nb4, hn9⟩ : ∃ n, W5.heap.size = n := ⟨_, rfl⟩
  have h4 := World.alloc_heap_new W5 (.cells #[.int .i64 t] 3)
  rw [hn9] at h4
  have bA := hHeld.alloc hHeld.size (.cells #[.int .i64 t] 3)
  have kA := Kept.alloc 0 W5 (.cells #[.int .i64 t] 3)
  try rw [hn9]
  obtain ⟨x4, hx9⟩ : ∃ W : World, W = W5.alloc (.cells #[.int .i64 t] 3) := ⟨_, rfl⟩
  rw [← hx9] at h4 bA  ⊢
  clear hx9 kA hHeld hn9
  refine hK.out _ _ (bA) (fun hHeld => ?_)
  clear hK K
  try simp only [Act.put, aS, aZ, aC]
  refine wpAnyH_ready (rs := [2, 13]) (by kernel_rfl) (by simp) ?_
  refine AllReadyH.cons (o := ⟨some 24, _, _, _, _, _⟩) rfl (fun K hK => ?_) ?_
  ·go_simp
   refine (cC.out _ hHeld).mono ?_
   rintro r w7 ⟨v7, rfl, o7, b7⟩
   have b8 := hHeld.trans (b7.mono hHeld.size)
   replace o7 := own_mono o7 hHeld.size
   replace h4 := (Kept.of_below b7 0).same _ _ h4 (.inl rfl)
   clear hHeld b7
   refine hK.out _ _ (b8) (fun hHeld => ?_)
   clear hK K
   try simp only [Act.put, aS, aZ, aC]
   refine wpAnyH_ready (rs := [5, 13]) (by kernel_rfl) (by simp) ?_
   refine AllReadyH.cons (o := ⟨some 27, _, _, _, _, _⟩) rfl (fun K hK => ?_) ?_
   ·refine (if_pos (by rfl)).mpr ?_
    refine wp_append_slG _ _ 50 rfl W5.heap.size 3 i0 (.int .i64 0) 1 8 Tryz.underlying50 hi hz0 hz1 hz2 rfl (by decide) _ _ _ rfl o7 encI _ [(t : Int)] rfl (sl_i1 h4) (encI_enc _) (by unfold maxLen; simp only [List.length_singleton]; omega) (by simp only [List.length_singleton]; omega) hHeld.size (fun v9 w9 o9 hg9 n9 => hK.out _ _ ?_ (fun hHeld => ?_))
    ·exact hHeld.grown hg9 hHeld.size (fun j e9 => own_base2 o7 e9)
    obtain ⟨p9, c9, rfl, -, -⟩ := owns_shape o9
    clear o7 hg9 n9 h4
    clear hK K
    try simp only [Act.put, aS, aZ, aC]
    refine tkH 12 (some 34) ?_ rfl (Or.inl ⟨by rfl, ?_⟩) ?_; rotate_left
    ·intro w hSw; (try dsimp only at hSw); go_simp <;> with_reducible rfl
    try simp only [Act.put, aS, aZ, aC]
    refine wpAnyH_ready (rs := [13]) (by kernel_rfl) (by simp) ?_
    refine AllReadyH.cons (o := ⟨some 13, _, _, _, _, _⟩) rfl (fun K hK => ?_) AllReadyH.nil
    go_simp
    obtain ⟨n13, hn9⟩ : ∃ n, w9.heap.size = n := ⟨_, rfl⟩
    have g13 := World.alloc_heap_new w9 (.cells #[.slice none 0 0, .int .i64 0, .int .i64 0] 52)
    rw [hn9] at g13
    have bA := hHeld.alloc hHeld.size (.cells #[.slice none 0 0, .int .i64 0, .int .i64 0] 52)
    have kA := Kept.alloc 0 w9 (.cells #[.slice none 0 0, .int .i64 0, .int .i64 0] 52)
    have hz13 : W5.heap.size ≤ n13 := by rw [← hn9]; exact hHeld.size
    replace o9 := kA.owns o9
    try rw [hn9]
    obtain ⟨x13, hx9⟩ : ∃ W : World, W = w9.alloc (.cells #[.slice none 0 0, .int .i64 0, .int .i64 0] 52) := ⟨_, rfl⟩
    rw [← hx9] at g13 bA o9 ⊢
    clear hx9 kA hHeld hn9
    refine hK.out _ _ (bA) (fun hHeld => ?_)
    clear hK K
    try simp only [Act.put, aS, aZ, aC]
    refine wpAnyH_ready (rs := [14]) (by kernel_rfl) (by simp) ?_
    refine AllReadyH.cons (o := ⟨none, _, _, _, _, _⟩) rfl (fun K hK => ?_) AllReadyH.nil
    refine (if_pos (by rfl)).mpr ?_
    refine wp_store_mid 52 _ _ rfl n13 0 #[.slice p9 (LB + 1) c9, .int .i64 T2, .int .i64 x.ov] rfl rfl (there_blk g13 rfl) (by kernel_rfl) (way_one _ _ _ _ _) ?_
    refine hK.out _ _ (below_setG hz13 _ _ _ hHeld) (fun hHeld => ?_)
    clear hK K
    try simp only [Act.put]
    refine wpAnyH_done (by kernel_rfl) ?_ _
    have uX := (Upd.refl g13).setCells (#[.slice p9 (LB + 1) c9, .int .i64 T2, .int .i64 x.ov] : Array Value).toList rfl
    have o10 := upd_own2 uX (own_ty2 o9 g13 (by decide)) o9
    have g14 := uX.here
    rw [Array.toArray_toList] at g14
    have BX := B4d.trans (hHeld.mono hz4)
    have g2x := (Kept.of_below hHeld 0).same _ _ g2d (.inl rfl)
    obtain ⟨W9, hW9⟩ : ∃ W : World, W = x13.setCells n13 0 (#[.slice p9 (LB + 1) c9, .int .i64 T2, .int .i64 x.ov] : Array Value).toList := ⟨_, rfl⟩
    rw [← hW9] at o10 g14 BX g2x ⊢
    clear hW9 uX o9 g13 hHeld hst cC kV k1 k2
    obtain ⟨n₄, hn₄⟩ : ∃ n, W5.heap.size = n := ⟨_, rfl⟩
    rw [hn₄] at o10 hz13 hz4
    cases lo with
    | true =>
     have d2 : W9.cell? ⟨n13, 2, none⟩ = some (.int .i64 x.ov) := cell_blk (i := 2) g14 rfl
     have f2 := frozen_blk (i := 2) g14
     have g15 := setCell_blk (i := 2) (x := .int .i64 (x.ov + 1)) g14
     have o11 : (W9.setCell ⟨n13, 2, none⟩ (.int .i64 (x.ov + 1))).ownsRow n₄ 3 1 (.slice p9 (LB + 1) c9) (LB + 1) _ := upd_own2 ((Upd.refl g14).set (i := 2) (.int .i64 (x.ov + 1))) (own_ty2 o10 g14 (by decide)) o10
     have BY := BX.setCell (p := ⟨n13, 2, none⟩) (show n₀ ≤ n13 by omega) (.int .i64 (x.ov + 1))
     have g2y := (setCell_off (b := n13) (i := 2) (x := .int .i64 (x.ov + 1)) (show n₀ + 1 + 1 ≠ n13 by omega)).trans g2x
     go_upto_region 5 with (fail)
     obtain ⟨WY, hWY⟩ : ∃ W : World, W = W9.setCell ⟨n13, 2, none⟩ (.int .i64 (x.ov + 1)) := ⟨_, rfl⟩
     rw [← hWY] at g15 o11 BY g2y ⊢
     clear hWY
     have hr := range_blk (cs := [Value.slice p9 (LB + 1) c9, .int .i64 T2, .int .i64 (x.ov + 1)]) g15
     have uR := (Upd.refl g2y).setCells (#[.slice p9 (LB + 1) c9, .int .i64 T2, .int .i64 (x.ov + 1)] : Array Value).toList rfl
     have oR := upd_own2 uR (own_ty2 o11 g2y (by decide)) o11
     have BR := uR.below BY (by omega)
     have hRes := uR.here
     rw [Array.toArray_toList] at hRes
     have htR : WY.there (n₀ + 1 + 1) 0 (#[.slice p9 (LB + 1) c9, .int .i64 T2, .int .i64 (x.ov + 1)] : Array Value).size := there_blk g2y rfl
     replace oR := hid oR
     replace BR := hid BR
     replace hRes := hid hRes
     go_wp2_with (first | refine wpList_load_mid rfl 52 _ rfl n13 0 rfl [Value.slice p9 (LB + 1) c9, .int .i64 T2, .int .i64 (x.ov + 1)] _ hr Tryz.underlying52 rfl (by kernel_rfl) ?_ | refine wpList_store_mid rfl 52 _ _ rfl (n₀ + 1 + 1) 0 #[.slice p9 (LB + 1) c9, .int .i64 T2, .int .i64 (x.ov + 1)] rfl rfl htR (by kernel_rfl) (way_one _ _ _ _ _) ?_)
     exact outRowT2 (ty := 52) rfl hRes.out rfl rfl rfl (by kernel_rfl) (by kernel_rfl) ⟨.slice p9 (LB + 1) c9, by (rw [hans.out]; first | rfl | simp), by first | exact own_mono oR.out (by omega) | (rw [List.flatMap_append]; exact own_mono oR.out (by omega)) | simpa using own_mono oR.out (show n₀ ≤ n₄ by omega), BR.out⟩
    | false =>
     have hr := range_blk (cs := [Value.slice p9 (LB + 1) c9, .int .i64 T2, .int .i64 x.ov]) g14
     have uR := (Upd.refl g2x).setCells (#[.slice p9 (LB + 1) c9, .int .i64 T2, .int .i64 x.ov] : Array Value).toList rfl
     have oR := upd_own2 uR (own_ty2 o10 g2x (by decide)) o10
     have BR := uR.below BX (by omega)
     have hRes := uR.here
     rw [Array.toArray_toList] at hRes
     have htR : W9.there (n₀ + 1 + 1) 0 (#[.slice p9 (LB + 1) c9, .int .i64 T2, .int .i64 x.ov] : Array Value).size := there_blk g2x rfl
     replace oR := hid oR
     replace BR := hid BR
     replace hRes := hid hRes
     go_wp2_with (first | refine wpList_load_mid rfl 52 _ rfl n13 0 rfl [Value.slice p9 (LB + 1) c9, .int .i64 T2, .int .i64 x.ov] _ hr Tryz.underlying52 rfl (by kernel_rfl) ?_ | refine wpList_store_mid rfl 52 _ _ rfl (n₀ + 1 + 1) 0 #[.slice p9 (LB + 1) c9, .int .i64 T2, .int .i64 x.ov] rfl rfl htR (by kernel_rfl) (way_one _ _ _ _ _) ?_)
     exact outRowT2 (ty := 52) rfl hRes.out rfl rfl rfl (by kernel_rfl) (by kernel_rfl) ⟨.slice p9 (LB + 1) c9, by (rw [hans.out]; first | rfl | simp), by first | exact own_mono oR.out (by omega) | (rw [List.flatMap_append]; exact own_mono oR.out (by omega)) | simpa using own_mono oR.out (show n₀ ≤ n₄ by omega), BR.out⟩
   refine AllReadyH.cons (o := ⟨some 13, _, _, _, _, _⟩) rfl (fun K hK => ?_) AllReadyH.nil
   go_simp
   obtain ⟨n13, hn9⟩ : ∃ n, w7.heap.size = n := ⟨_, rfl⟩
   have g13 := World.alloc_heap_new w7 (.cells #[.slice none 0 0, .int .i64 0, .int .i64 0] 52)
   rw [hn9] at g13
   have bA := hHeld.alloc hHeld.size (.cells #[.slice none 0 0, .int .i64 0, .int .i64 0] 52)
   have kA := Kept.alloc 0 w7 (.cells #[.slice none 0 0, .int .i64 0, .int .i64 0] 52)
   have hz13 : W5.heap.size ≤ n13 := by rw [← hn9]; exact hHeld.size
   replace o7 := kA.owns o7
   replace h4 := kA.same _ _ h4 (.inl rfl)
   try rw [hn9]
   obtain ⟨x13, hx9⟩ : ∃ W : World, W = w7.alloc (.cells #[.slice none 0 0, .int .i64 0, .int .i64 0] 52) := ⟨_, rfl⟩
   rw [← hx9] at g13 bA o7 h4 ⊢
   clear hx9 kA hHeld hn9
   refine hK.out _ _ (bA) (fun hHeld => ?_)
   clear hK K
   try simp only [Act.put, aS, aZ, aC]
   refine wpAnyH_ready (rs := [5]) (by kernel_rfl) (by simp) ?_
   refine AllReadyH.cons (o := ⟨some 27, _, _, _, _, _⟩) rfl (fun K hK => ?_) AllReadyH.nil
   refine (if_pos (by rfl)).mpr ?_
   refine wp_append_slG _ _ 50 rfl W5.heap.size 3 i0 (.int .i64 0) 1 8 Tryz.underlying50 hi hz0 hz1 hz2 rfl (by decide) _ _ _ rfl o7 encI _ [(t : Int)] rfl (sl_i1 h4) (encI_enc _) (by unfold maxLen; simp only [List.length_singleton]; omega) (by simp only [List.length_singleton]; omega) hHeld.size (fun v9 w9 o9 hg9 n9 => hK.out _ _ ?_ (fun hHeld => ?_))
   ·exact hHeld.grown hg9 hHeld.size (fun j e9 => own_base2 o7 e9)
   replace g13 := (hg9.block n13 (Array.getElem?_eq_some_iff.1 g13).1 (fun e9 => own_ty2 o7 g13 (by decide) e9.symm)).trans g13
   obtain ⟨p9, c9, rfl, -, -⟩ := owns_shape o9
   clear o7 hg9 n9 h4
   clear hK K
   try simp only [Act.put, aS, aZ, aC]
   refine tkH 12 (some 34) ?_ rfl (Or.inl ⟨by rfl, ?_⟩) ?_; rotate_left
   ·intro w hSw; (try dsimp only at hSw); go_simp <;> with_reducible rfl
   try simp only [Act.put, aS, aZ, aC]
   refine wpAnyH_ready (rs := [14]) (by kernel_rfl) (by simp) ?_
   refine AllReadyH.cons (o := ⟨none, _, _, _, _, _⟩) rfl (fun K hK => ?_) AllReadyH.nil
   refine (if_pos (by rfl)).mpr ?_
   refine wp_store_mid 52 _ _ rfl n13 0 #[.slice p9 (LB + 1) c9, .int .i64 T2, .int .i64 x.ov] rfl rfl (there_blk g13 rfl) (by kernel_rfl) (way_one _ _ _ _ _) ?_
   refine hK.out _ _ (below_setG hz13 _ _ _ hHeld) (fun hHeld => ?_)
   clear hK K
   try simp only [Act.put]
   refine wpAnyH_done (by kernel_rfl) ?_ _
   have uX := (Upd.refl g13).setCells (#[.slice p9 (LB + 1) c9, .int .i64 T2, .int .i64 x.ov] : Array Value).toList rfl
   have o10 := upd_own2 uX (own_ty2 o9 g13 (by decide)) o9
   have g14 := uX.here
   rw [Array.toArray_toList] at g14
   have BX := B4d.trans (hHeld.mono hz4)
   have g2x := (Kept.of_below hHeld 0).same _ _ g2d (.inl rfl)
   obtain ⟨W9, hW9⟩ : ∃ W : World, W = w9.setCells n13 0 (#[.slice p9 (LB + 1) c9, .int .i64 T2, .int .i64 x.ov] : Array Value).toList := ⟨_, rfl⟩
   rw [← hW9] at o10 g14 BX g2x ⊢
   clear hW9 uX o9 g13 hHeld hst cC kV k1 k2
   obtain ⟨n₄, hn₄⟩ : ∃ n, W5.heap.size = n := ⟨_, rfl⟩
   rw [hn₄] at o10 hz13 hz4
   cases lo with
   | true =>
    have d2 : W9.cell? ⟨n13, 2, none⟩ = some (.int .i64 x.ov) := cell_blk (i := 2) g14 rfl
    have f2 := frozen_blk (i := 2) g14
    have g15 := setCell_blk (i := 2) (x := .int .i64 (x.ov + 1)) g14
    have o11 : (W9.setCell ⟨n13, 2, none⟩ (.int .i64 (x.ov + 1))).ownsRow n₄ 3 1 (.slice p9 (LB + 1) c9) (LB + 1) _ := upd_own2 ((Upd.refl g14).set (i := 2) (.int .i64 (x.ov + 1))) (own_ty2 o10 g14 (by decide)) o10
    have BY := BX.setCell (p := ⟨n13, 2, none⟩) (show n₀ ≤ n13 by omega) (.int .i64 (x.ov + 1))
    have g2y := (setCell_off (b := n13) (i := 2) (x := .int .i64 (x.ov + 1)) (show n₀ + 1 + 1 ≠ n13 by omega)).trans g2x
    go_upto_region 5 with (fail)
    obtain ⟨WY, hWY⟩ : ∃ W : World, W = W9.setCell ⟨n13, 2, none⟩ (.int .i64 (x.ov + 1)) := ⟨_, rfl⟩
    rw [← hWY] at g15 o11 BY g2y ⊢
    clear hWY
    have hr := range_blk (cs := [Value.slice p9 (LB + 1) c9, .int .i64 T2, .int .i64 (x.ov + 1)]) g15
    have uR := (Upd.refl g2y).setCells (#[.slice p9 (LB + 1) c9, .int .i64 T2, .int .i64 (x.ov + 1)] : Array Value).toList rfl
    have oR := upd_own2 uR (own_ty2 o11 g2y (by decide)) o11
    have BR := uR.below BY (by omega)
    have hRes := uR.here
    rw [Array.toArray_toList] at hRes
    have htR : WY.there (n₀ + 1 + 1) 0 (#[.slice p9 (LB + 1) c9, .int .i64 T2, .int .i64 (x.ov + 1)] : Array Value).size := there_blk g2y rfl
    replace oR := hid oR
    replace BR := hid BR
    replace hRes := hid hRes
    go_wp2_with (first | refine wpList_load_mid rfl 52 _ rfl n13 0 rfl [Value.slice p9 (LB + 1) c9, .int .i64 T2, .int .i64 (x.ov + 1)] _ hr Tryz.underlying52 rfl (by kernel_rfl) ?_ | refine wpList_store_mid rfl 52 _ _ rfl (n₀ + 1 + 1) 0 #[.slice p9 (LB + 1) c9, .int .i64 T2, .int .i64 (x.ov + 1)] rfl rfl htR (by kernel_rfl) (way_one _ _ _ _ _) ?_)
    exact outRowT2 (ty := 52) rfl hRes.out rfl rfl rfl (by kernel_rfl) (by kernel_rfl) ⟨.slice p9 (LB + 1) c9, by (rw [hans.out]; first | rfl | simp), by first | exact own_mono oR.out (by omega) | (rw [List.flatMap_append]; exact own_mono oR.out (by omega)) | simpa using own_mono oR.out (show n₀ ≤ n₄ by omega), BR.out⟩
   | false =>
    have hr := range_blk (cs := [Value.slice p9 (LB + 1) c9, .int .i64 T2, .int .i64 x.ov]) g14
    have uR := (Upd.refl g2x).setCells (#[.slice p9 (LB + 1) c9, .int .i64 T2, .int .i64 x.ov] : Array Value).toList rfl
    have oR := upd_own2 uR (own_ty2 o10 g2x (by decide)) o10
    have BR := uR.below BX (by omega)
    have hRes := uR.here
    rw [Array.toArray_toList] at hRes
    have htR : W9.there (n₀ + 1 + 1) 0 (#[.slice p9 (LB + 1) c9, .int .i64 T2, .int .i64 x.ov] : Array Value).size := there_blk g2x rfl
    replace oR := hid oR
    replace BR := hid BR
    replace hRes := hid hRes
    go_wp2_with (first | refine wpList_load_mid rfl 52 _ rfl n13 0 rfl [Value.slice p9 (LB + 1) c9, .int .i64 T2, .int .i64 x.ov] _ hr Tryz.underlying52 rfl (by kernel_rfl) ?_ | refine wpList_store_mid rfl 52 _ _ rfl (n₀ + 1 + 1) 0 #[.slice p9 (LB + 1) c9, .int .i64 T2, .int .i64 x.ov] rfl rfl htR (by kernel_rfl) (way_one _ _ _ _ _) ?_)
    exact outRowT2 (ty := 52) rfl hRes.out rfl rfl rfl (by kernel_rfl) (by kernel_rfl) ⟨.slice p9 (LB + 1) c9, by (rw [hans.out]; first | rfl | simp), by first | exact own_mono oR.out (by omega) | (rw [List.flatMap_append]; exact own_mono oR.out (by omega)) | simpa using own_mono oR.out (show n₀ ≤ n₄ by omega), BR.out⟩
  refine AllReadyH.cons (o := ⟨some 13, _, _, _, _, _⟩) rfl (fun K hK => ?_) AllReadyH.nil
  go_simp
  obtain ⟨n13, hn9⟩ : ∃ n, x4.heap.size = n := ⟨_, rfl⟩
  have g13 := World.alloc_heap_new x4 (.cells #[.slice none 0 0, .int .i64 0, .int .i64 0] 52)
  rw [hn9] at g13
  have bA := hHeld.alloc hHeld.size (.cells #[.slice none 0 0, .int .i64 0, .int .i64 0] 52)
  have kA := Kept.alloc 0 x4 (.cells #[.slice none 0 0, .int .i64 0, .int .i64 0] 52)
  have hz13 : W5.heap.size ≤ n13 := by rw [← hn9]; exact hHeld.size
  replace h4 := kA.same _ _ h4 (.inl rfl)
  try rw [hn9]
  obtain ⟨x13, hx9⟩ : ∃ W : World, W = x4.alloc (.cells #[.slice none 0 0, .int .i64 0, .int .i64 0] 52) := ⟨_, rfl⟩
  rw [← hx9] at g13 bA h4 ⊢
  clear hx9 kA hHeld hn9
  refine hK.out _ _ (bA) (fun hHeld => ?_)
  clear hK K
  try simp only [Act.put, aS, aZ, aC]
  refine wpAnyH_ready (rs := [2]) (by kernel_rfl) (by simp) ?_
  refine AllReadyH.cons (o := ⟨some 24, _, _, _, _, _⟩) rfl (fun K hK => ?_) AllReadyH.nil
  go_simp
  refine (cC.out _ hHeld).mono ?_
  rintro r w7 ⟨v7, rfl, o7, b7⟩
  have b8 := hHeld.trans (b7.mono hHeld.size)
  replace o7 := own_mono o7 hHeld.size
  replace h4 := (Kept.of_below b7 0).same _ _ h4 (.inl rfl)
  replace g13 := (Kept.of_below b7 0).same _ _ g13 (.inl rfl)
  clear hHeld b7
  refine hK.out _ _ (b8) (fun hHeld => ?_)
  clear hK K
  try simp only [Act.put, aS, aZ, aC]
  refine wpAnyH_ready (rs := [5]) (by kernel_rfl) (by simp) ?_
  refine AllReadyH.cons (o := ⟨some 27, _, _, _, _, _⟩) rfl (fun K hK => ?_) AllReadyH.nil
  refine (if_pos (by rfl)).mpr ?_
  refine wp_append_slG _ _ 50 rfl W5.heap.size 3 i0 (.int .i64 0) 1 8 Tryz.underlying50 hi hz0 hz1 hz2 rfl (by decide) _ _ _ rfl o7 encI _ [(t : Int)] rfl (sl_i1 h4) (encI_enc _) (by unfold maxLen; simp only [List.length_singleton]; omega) (by simp only [List.length_singleton]; omega) hHeld.size (fun v9 w9 o9 hg9 n9 => hK.out _ _ ?_ (fun hHeld => ?_))
  ·exact hHeld.grown hg9 hHeld.size (fun j e9 => own_base2 o7 e9)
  replace g13 := (hg9.block n13 (Array.getElem?_eq_some_iff.1 g13).1 (fun e9 => own_ty2 o7 g13 (by decide) e9.symm)).trans g13
  obtain ⟨p9, c9, rfl, -, -⟩ := owns_shape o9
  clear o7 hg9 n9 h4
  clear hK K
  try simp only [Act.put, aS, aZ, aC]
  refine tkH 12 (some 34) ?_ rfl (Or.inl ⟨by rfl, ?_⟩) ?_; rotate_left
  ·intro w hSw; (try dsimp only at hSw); go_simp <;> with_reducible rfl
  try simp only [Act.put, aS, aZ, aC]
  refine wpAnyH_ready (rs := [14]) (by kernel_rfl) (by simp) ?_
  refine AllReadyH.cons (o := ⟨none, _, _, _, _, _⟩) rfl (fun K hK => ?_) AllReadyH.nil
  refine (if_pos (by rfl)).mpr ?_
  refine wp_store_mid 52 _ _ rfl n13 0 #[.slice p9 (LB + 1) c9, .int .i64 T2, .int .i64 x.ov] rfl rfl (there_blk g13 rfl) (by kernel_rfl) (way_one _ _ _ _ _) ?_
  refine hK.out _ _ (below_setG hz13 _ _ _ hHeld) (fun hHeld => ?_)
  clear hK K
  try simp only [Act.put]
  refine wpAnyH_done (by kernel_rfl) ?_ _
  have uX := (Upd.refl g13).setCells (#[.slice p9 (LB + 1) c9, .int .i64 T2, .int .i64 x.ov] : Array Value).toList rfl
  have o10 := upd_own2 uX (own_ty2 o9 g13 (by decide)) o9
  have g14 := uX.here
  rw [Array.toArray_toList] at g14
  have BX := B4d.trans (hHeld.mono hz4)
  have g2x := (Kept.of_below hHeld 0).same _ _ g2d (.inl rfl)
  obtain ⟨W9, hW9⟩ : ∃ W : World, W = w9.setCells n13 0 (#[.slice p9 (LB + 1) c9, .int .i64 T2, .int .i64 x.ov] : Array Value).toList := ⟨_, rfl⟩
  rw [← hW9] at o10 g14 BX g2x ⊢
  clear hW9 uX o9 g13 hHeld hst cC kV k1 k2
  obtain ⟨n₄, hn₄⟩ : ∃ n, W5.heap.size = n := ⟨_, rfl⟩
  rw [hn₄] at o10 hz13 hz4
  cases lo with
  | true =>
   have d2 : W9.cell? ⟨n13, 2, none⟩ = some (.int .i64 x.ov) := cell_blk (i := 2) g14 rfl
   have f2 := frozen_blk (i := 2) g14
   have g15 := setCell_blk (i := 2) (x := .int .i64 (x.ov + 1)) g14
   have o11 : (W9.setCell ⟨n13, 2, none⟩ (.int .i64 (x.ov + 1))).ownsRow n₄ 3 1 (.slice p9 (LB + 1) c9) (LB + 1) _ := upd_own2 ((Upd.refl g14).set (i := 2) (.int .i64 (x.ov + 1))) (own_ty2 o10 g14 (by decide)) o10
   have BY := BX.setCell (p := ⟨n13, 2, none⟩) (show n₀ ≤ n13 by omega) (.int .i64 (x.ov + 1))
   have g2y := (setCell_off (b := n13) (i := 2) (x := .int .i64 (x.ov + 1)) (show n₀ + 1 + 1 ≠ n13 by omega)).trans g2x
   go_upto_region 5 with (fail)
   obtain ⟨WY, hWY⟩ : ∃ W : World, W = W9.setCell ⟨n13, 2, none⟩ (.int .i64 (x.ov + 1)) := ⟨_, rfl⟩
   rw [← hWY] at g15 o11 BY g2y ⊢
   clear hWY
   have hr := range_blk (cs := [Value.slice p9 (LB + 1) c9, .int .i64 T2, .int .i64 (x.ov + 1)]) g15
   have uR := (Upd.refl g2y).setCells (#[.slice p9 (LB + 1) c9, .int .i64 T2, .int .i64 (x.ov + 1)] : Array Value).toList rfl
   have oR := upd_own2 uR (own_ty2 o11 g2y (by decide)) o11
   have BR := uR.below BY (by omega)
   have hRes := uR.here
   rw [Array.toArray_toList] at hRes
   have htR : WY.there (n₀ + 1 + 1) 0 (#[.slice p9 (LB + 1) c9, .int .i64 T2, .int .i64 (x.ov + 1)] : Array Value).size := there_blk g2y rfl
   replace oR := hid oR
   replace BR := hid BR
   replace hRes := hid hRes
   go_wp2_with (first | refine wpList_load_mid rfl 52 _ rfl n13 0 rfl [Value.slice p9 (LB + 1) c9, .int .i64 T2, .int .i64 (x.ov + 1)] _ hr Tryz.underlying52 rfl (by kernel_rfl) ?_ | refine wpList_store_mid rfl 52 _ _ rfl (n₀ + 1 + 1) 0 #[.slice p9 (LB + 1) c9, .int .i64 T2, .int .i64 (x.ov + 1)] rfl rfl htR (by kernel_rfl) (way_one _ _ _ _ _) ?_)
   exact outRowT2 (ty := 52) rfl hRes.out rfl rfl rfl (by kernel_rfl) (by kernel_rfl) ⟨.slice p9 (LB + 1) c9, by (rw [hans.out]; first | rfl | simp), by first | exact own_mono oR.out (by omega) | (rw [List.flatMap_append]; exact own_mono oR.out (by omega)) | simpa using own_mono oR.out (show n₀ ≤ n₄ by omega), BR.out⟩
  | false =>
   have hr := range_blk (cs := [Value.slice p9 (LB + 1) c9, .int .i64 T2, .int .i64 x.ov]) g14
   have uR := (Upd.refl g2x).setCells (#[.slice p9 (LB + 1) c9, .int .i64 T2, .int .i64 x.ov] : Array Value).toList rfl
   have oR := upd_own2 uR (own_ty2 o10 g2x (by decide)) o10
   have BR := uR.below BX (by omega)
   have hRes := uR.here
   rw [Array.toArray_toList] at hRes
   have htR : W9.there (n₀ + 1 + 1) 0 (#[.slice p9 (LB + 1) c9, .int .i64 T2, .int .i64 x.ov] : Array Value).size := there_blk g2x rfl
   replace oR := hid oR
   replace BR := hid BR
   replace hRes := hid hRes
   go_wp2_with (first | refine wpList_load_mid rfl 52 _ rfl n13 0 rfl [Value.slice p9 (LB + 1) c9, .int .i64 T2, .int .i64 x.ov] _ hr Tryz.underlying52 rfl (by kernel_rfl) ?_ | refine wpList_store_mid rfl 52 _ _ rfl (n₀ + 1 + 1) 0 #[.slice p9 (LB + 1) c9, .int .i64 T2, .int .i64 x.ov] rfl rfl htR (by kernel_rfl) (way_one _ _ _ _ _) ?_)
   exact outRowT2 (ty := 52) rfl hRes.out rfl rfl rfl (by kernel_rfl) (by kernel_rfl) ⟨.slice p9 (LB + 1) c9, by (rw [hans.out]; first | rfl | simp), by first | exact own_mono oR.out (by omega) | (rw [List.flatMap_append]; exact own_mono oR.out (by omega)) | simpa using own_mono oR.out (show n₀ ≤ n₄ by omega), BR.out⟩
 refine AllReadyH.cons (o := ⟨some 13, _, _, _, _, _⟩) rfl (fun K hK => ?_) AllReadyH.nil
 go_simp
 obtain ⟨n13, hn9⟩ : ∃ n, W5.heap.size = n := ⟨_, rfl⟩
 have g13 := World.alloc_heap_new W5 (.cells #[.slice none 0 0, .int .i64 0, .int .i64 0] 52)
 rw [hn9] at g13
 have bA := hHeld.alloc hHeld.size (.cells #[.slice none 0 0, .int .i64 0, .int .i64 0] 52)
 have kA := Kept.alloc 0 W5 (.cells #[.slice none 0 0, .int .i64 0, .int .i64 0] 52)
 have hz13 : W5.heap.size ≤ n13 := by rw [← hn9]; exact hHeld.size
 try rw [hn9]
 obtain ⟨x13, hx9⟩ : ∃ W : World, W = W5.alloc (.cells #[.slice none 0 0, .int .i64 0, .int .i64 0] 52) := ⟨_, rfl⟩
 rw [← hx9] at g13 bA  ⊢
 clear hx9 kA hHeld hn9
 refine hK.out _ _ (bA) (fun hHeld => ?_)
 clear hK K
 try simp only [Act.put, aS, aZ, aC]
 refine wpAnyH_ready (rs := [2, 4]) (by kernel_rfl) (by simp) ?_
 refine AllReadyH.cons (o := ⟨some 24, _, _, _, _, _⟩) rfl (fun K hK => ?_) ?_
 ·go_simp
  refine (cC.out _ hHeld).mono ?_
  rintro r w7 ⟨v7, rfl, o7, b7⟩
  have b8 := hHeld.trans (b7.mono hHeld.size)
  replace o7 := own_mono o7 hHeld.size
  replace g13 := (Kept.of_below b7 0).same _ _ g13 (.inl rfl)
  clear hHeld b7
  refine hK.out _ _ (b8) (fun hHeld => ?_)
  clear hK K
  try simp only [Act.put, aS, aZ, aC]
  refine wpAnyH_ready (rs := [4]) (by kernel_rfl) (by simp) ?_
  refine AllReadyH.cons (o := ⟨some 26, _, _, _, _, _⟩) rfl (fun K hK => ?_) AllReadyH.nil
  go_simp
  obtain ⟨nb4, hn9⟩ : ∃ n, w7.heap.size = n := ⟨_, rfl⟩
  have h4 := World.alloc_heap_new w7 (.cells #[.int .i64 t] 3)
  rw [hn9] at h4
  have bA := hHeld.alloc hHeld.size (.cells #[.int .i64 t] 3)
  have kA := Kept.alloc 0 w7 (.cells #[.int .i64 t] 3)
  replace o7 := kA.owns o7
  replace g13 := kA.same _ _ g13 (.inl rfl)
  try rw [hn9]
  obtain ⟨x4, hx9⟩ : ∃ W : World, W = w7.alloc (.cells #[.int .i64 t] 3) := ⟨_, rfl⟩
  rw [← hx9] at h4 bA o7 g13 ⊢
  clear hx9 kA hHeld hn9
  refine hK.out _ _ (bA) (fun hHeld => ?_)
  clear hK K
  try simp only [Act.put, aS, aZ, aC]
  refine wpAnyH_ready (rs := [5]) (by kernel_rfl) (by simp) ?_
  refine AllReadyH.cons (o := ⟨some 27, _, _, _, _, _⟩) rfl (fun K hK => ?_) AllReadyH.nil
  refine (if_pos (by rfl)).mpr ?_
  refine wp_append_slG _ _ 50 rfl W5.heap.size 3 i0 (.int .i64 0) 1 8 Tryz.underlying50 hi hz0 hz1 hz2 rfl (by decide) _ _ _ rfl o7 encI _ [(t : Int)] rfl (sl_i1 h4) (encI_enc _) (by unfold maxLen; simp only [List.length_singleton]; omega) (by simp only [List.length_singleton]; omega) hHeld.size (fun v9 w9 o9 hg9 n9 => hK.out _ _ ?_ (fun hHeld => ?_))
  ·exact hHeld.grown hg9 hHeld.size (fun j e9 => own_base2 o7 e9)
  replace g13 := (hg9.block n13 (Array.getElem?_eq_some_iff.1 g13).1 (fun e9 => own_ty2 o7 g13 (by decide) e9.symm)).trans g13
  obtain ⟨p9, c9, rfl, -, -⟩ := owns_shape o9
  clear o7 hg9 n9 h4
  clear hK K
  try simp only [Act.put, aS, aZ, aC]
  refine tkH 12 (some 34) ?_ rfl (Or.inl ⟨by rfl, ?_⟩) ?_; rotate_left
  ·intro w hSw; (try dsimp only at hSw); go_simp <;> with_reducible rfl
  try simp only [Act.put, aS, aZ, aC]
  refine wpAnyH_ready (rs := [14]) (by kernel_rfl) (by simp) ?_
  refine AllReadyH.cons (o := ⟨none, _, _, _, _, _⟩) rfl (fun K hK => ?_) AllReadyH.nil
  refine (if_pos (by rfl)).mpr ?_
  refine wp_store_mid 52 _ _ rfl n13 0 #[.slice p9 (LB + 1) c9, .int .i64 T2, .int .i64 x.ov] rfl rfl (there_blk g13 rfl) (by kernel_rfl) (way_one _ _ _ _ _) ?_
  refine hK.out _ _ (below_setG hz13 _ _ _ hHeld) (fun hHeld => ?_)
  clear hK K
  try simp only [Act.put]
  refine wpAnyH_done (by kernel_rfl) ?_ _
  have uX := (Upd.refl g13).setCells (#[.slice p9 (LB + 1) c9, .int .i64 T2, .int .i64 x.ov] : Array Value).toList rfl
  have o10 := upd_own2 uX (own_ty2 o9 g13 (by decide)) o9
  have g14 := uX.here
  rw [Array.toArray_toList] at g14
  have BX := B4d.trans (hHeld.mono hz4)
  have g2x := (Kept.of_below hHeld 0).same _ _ g2d (.inl rfl)
  obtain ⟨W9, hW9⟩ : ∃ W : World, W = w9.setCells n13 0 (#[.slice p9 (LB + 1) c9, .int .i64 T2, .int .i64 x.ov] : Array Value).toList := ⟨_, rfl⟩
  rw [← hW9] at o10 g14 BX g2x ⊢
  clear hW9 uX o9 g13 hHeld hst cC kV k1 k2
  obtain ⟨n₄, hn₄⟩ : ∃ n, W5.heap.size = n := ⟨_, rfl⟩
  rw [hn₄] at o10 hz13 hz4
  cases lo with
  | true =>
   have d2 : W9.cell? ⟨n13, 2, none⟩ = some (.int .i64 x.ov) := cell_blk (i := 2) g14 rfl
   have f2 := frozen_blk (i := 2) g14
   have g15 := setCell_blk (i := 2) (x := .int .i64 (x.ov + 1)) g14
   have o11 : (W9.setCell ⟨n13, 2, none⟩ (.int .i64 (x.ov + 1))).ownsRow n₄ 3 1 (.slice p9 (LB + 1) c9) (LB + 1) _ := upd_own2 ((Upd.refl g14).set (i := 2) (.int .i64 (x.ov + 1))) (own_ty2 o10 g14 (by decide)) o10
   have BY := BX.setCell (p := ⟨n13, 2, none⟩) (show n₀ ≤ n13 by omega) (.int .i64 (x.ov + 1))
   have g2y := (setCell_off (b := n13) (i := 2) (x := .int .i64 (x.ov + 1)) (show n₀ + 1 + 1 ≠ n13 by omega)).trans g2x
   go_upto_region 5 with (fail)
   obtain ⟨WY, hWY⟩ : ∃ W : World, W = W9.setCell ⟨n13, 2, none⟩ (.int .i64 (x.ov + 1)) := ⟨_, rfl⟩
   rw [← hWY] at g15 o11 BY g2y ⊢
   clear hWY
   have hr := range_blk (cs := [Value.slice p9 (LB + 1) c9, .int .i64 T2, .int .i64 (x.ov + 1)]) g15
   have uR := (Upd.refl g2y).setCells (#[.slice p9 (LB + 1) c9, .int .i64 T2, .int .i64 (x.ov + 1)] : Array Value).toList rfl
   have oR := upd_own2 uR (own_ty2 o11 g2y (by decide)) o11
   have BR := uR.below BY (by omega)
   have hRes := uR.here
   rw [Array.toArray_toList] at hRes
   have htR : WY.there (n₀ + 1 + 1) 0 (#[.slice p9 (LB + 1) c9, .int .i64 T2, .int .i64 (x.ov + 1)] : Array Value).size := there_blk g2y rfl
   replace oR := hid oR
   replace BR := hid BR
   replace hRes := hid hRes
   go_wp2_with (first | refine wpList_load_mid rfl 52 _ rfl n13 0 rfl [Value.slice p9 (LB + 1) c9, .int .i64 T2, .int .i64 (x.ov + 1)] _ hr Tryz.underlying52 rfl (by kernel_rfl) ?_ | refine wpList_store_mid rfl 52 _ _ rfl (n₀ + 1 + 1) 0 #[.slice p9 (LB + 1) c9, .int .i64 T2, .int .i64 (x.ov + 1)] rfl rfl htR (by kernel_rfl) (way_one _ _ _ _ _) ?_)
   exact outRowT2 (ty := 52) rfl hRes.out rfl rfl rfl (by kernel_rfl) (by kernel_rfl) ⟨.slice p9 (LB + 1) c9, by (rw [hans.out]; first | rfl | simp), by first | exact own_mono oR.out (by omega) | (rw [List.flatMap_append]; exact own_mono oR.out (by omega)) | simpa using own_mono oR.out (show n₀ ≤ n₄ by omega), BR.out⟩
  | false =>
   have hr := range_blk (cs := [Value.slice p9 (LB + 1) c9, .int .i64 T2, .int .i64 x.ov]) g14
   have uR := (Upd.refl g2x).setCells (#[.slice p9 (LB + 1) c9, .int .i64 T2, .int .i64 x.ov] : Array Value).toList rfl
   have oR := upd_own2 uR (own_ty2 o10 g2x (by decide)) o10
   have BR := uR.below BX (by omega)
   have hRes := uR.here
   rw [Array.toArray_toList] at hRes
   have htR : W9.there (n₀ + 1 + 1) 0 (#[.slice p9 (LB + 1) c9, .int .i64 T2, .int .i64 x.ov] : Array Value).size := there_blk g2x rfl
   replace oR := hid oR
   replace BR := hid BR
   replace hRes := hid hRes
   go_wp2_with (first | refine wpList_load_mid rfl 52 _ rfl n13 0 rfl [Value.slice p9 (LB + 1) c9, .int .i64 T2, .int .i64 x.ov] _ hr Tryz.underlying52 rfl (by kernel_rfl) ?_ | refine wpList_store_mid rfl 52 _ _ rfl (n₀ + 1 + 1) 0 #[.slice p9 (LB + 1) c9, .int .i64 T2, .int .i64 x.ov] rfl rfl htR (by kernel_rfl) (way_one _ _ _ _ _) ?_)
   exact outRowT2 (ty := 52) rfl hRes.out rfl rfl rfl (by kernel_rfl) (by kernel_rfl) ⟨.slice p9 (LB + 1) c9, by (rw [hans.out]; first | rfl | simp), by first | exact own_mono oR.out (by omega) | (rw [List.flatMap_append]; exact own_mono oR.out (by omega)) | simpa using own_mono oR.out (show n₀ ≤ n₄ by omega), BR.out⟩
 refine AllReadyH.cons (o := ⟨some 26, _, _, _, _, _⟩) rfl (fun K hK => ?_) AllReadyH.nil
 go_simp
 obtain ⟨nb4, hn9⟩ : ∃ n, x13.heap.size = n := ⟨_, rfl⟩
 have h4 := World.alloc_heap_new x13 (.cells #[.int .i64 t] 3)
 rw [hn9] at h4
 have bA := hHeld.alloc hHeld.size (.cells #[.int .i64 t] 3)
 have kA := Kept.alloc 0 x13 (.cells #[.int .i64 t] 3)
 replace g13 := kA.same _ _ g13 (.inl rfl)
 try rw [hn9]
 obtain ⟨x4, hx9⟩ : ∃ W : World, W = x13.alloc (.cells #[.int .i64 t] 3) := ⟨_, rfl⟩
 rw [← hx9] at h4 bA g13 ⊢
 clear hx9 kA hHeld hn9
 refine hK.out _ _ (bA) (fun hHeld => ?_)
 clear hK K
 try simp only [Act.put, aS, aZ, aC]
 refine wpAnyH_ready (rs := [2]) (by kernel_rfl) (by simp) ?_
 refine AllReadyH.cons (o := ⟨some 24, _, _, _, _, _⟩) rfl (fun K hK => ?_) AllReadyH.nil
 go_simp
 refine (cC.out _ hHeld).mono ?_
 rintro r w7 ⟨v7, rfl, o7, b7⟩
 have b8 := hHeld.trans (b7.mono hHeld.size)
 replace o7 := own_mono o7 hHeld.size
 replace h4 := (Kept.of_below b7 0).same _ _ h4 (.inl rfl)
 replace g13 := (Kept.of_below b7 0).same _ _ g13 (.inl rfl)
 clear hHeld b7
 refine hK.out _ _ (b8) (fun hHeld => ?_)
 clear hK K
 try simp only [Act.put, aS, aZ, aC]
 refine wpAnyH_ready (rs := [5]) (by kernel_rfl) (by simp) ?_
 refine AllReadyH.cons (o := ⟨some 27, _, _, _, _, _⟩) rfl (fun K hK => ?_) AllReadyH.nil
 refine (if_pos (by rfl)).mpr ?_
 refine wp_append_slG _ _ 50 rfl W5.heap.size 3 i0 (.int .i64 0) 1 8 Tryz.underlying50 hi hz0 hz1 hz2 rfl (by decide) _ _ _ rfl o7 encI _ [(t : Int)] rfl (sl_i1 h4) (encI_enc _) (by unfold maxLen; simp only [List.length_singleton]; omega) (by simp only [List.length_singleton]; omega) hHeld.size (fun v9 w9 o9 hg9 n9 => hK.out _ _ ?_ (fun hHeld => ?_))
 ·exact hHeld.grown hg9 hHeld.size (fun j e9 => own_base2 o7 e9)
 replace g13 := (hg9.block n13 (Array.getElem?_eq_some_iff.1 g13).1 (fun e9 => own_ty2 o7 g13 (by decide) e9.symm)).trans g13
 obtain ⟨p9, c9, rfl, -, -⟩ := owns_shape o9
 clear o7 hg9 n9 h4
 clear hK K
 try simp only [Act.put, aS, aZ, aC]
 refine tkH 12 (some 34) ?_ rfl (Or.inl ⟨by rfl, ?_⟩) ?_; rotate_left
 ·intro w hSw; (try dsimp only at hSw); go_simp <;> with_reducible rfl
 try simp only [Act.put, aS, aZ, aC]
 refine wpAnyH_ready (rs := [14]) (by kernel_rfl) (by simp) ?_
 refine AllReadyH.cons (o := ⟨none, _, _, _, _, _⟩) rfl (fun K hK => ?_) AllReadyH.nil
 refine (if_pos (by rfl)).mpr ?_
 refine wp_store_mid 52 _ _ rfl n13 0 #[.slice p9 (LB + 1) c9, .int .i64 T2, .int .i64 x.ov] rfl rfl (there_blk g13 rfl) (by kernel_rfl) (way_one _ _ _ _ _) ?_
 refine hK.out _ _ (below_setG hz13 _ _ _ hHeld) (fun hHeld => ?_)
 clear hK K
 try simp only [Act.put]
 refine wpAnyH_done (by kernel_rfl) ?_ _
 have uX := (Upd.refl g13).setCells (#[.slice p9 (LB + 1) c9, .int .i64 T2, .int .i64 x.ov] : Array Value).toList rfl
 have o10 := upd_own2 uX (own_ty2 o9 g13 (by decide)) o9
 have g14 := uX.here
 rw [Array.toArray_toList] at g14
 have BX := B4d.trans (hHeld.mono hz4)
 have g2x := (Kept.of_below hHeld 0).same _ _ g2d (.inl rfl)
 obtain ⟨W9, hW9⟩ : ∃ W : World, W = w9.setCells n13 0 (#[.slice p9 (LB + 1) c9, .int .i64 T2, .int .i64 x.ov] : Array Value).toList := ⟨_, rfl⟩
 rw [← hW9] at o10 g14 BX g2x ⊢
 clear hW9 uX o9 g13 hHeld hst cC kV k1 k2
 obtain ⟨n₄, hn₄⟩ : ∃ n, W5.heap.size = n := ⟨_, rfl⟩
 rw [hn₄] at o10 hz13 hz4
 cases lo with
 | true =>
  have d2 : W9.cell? ⟨n13, 2, none⟩ = some (.int .i64 x.ov) := cell_blk (i := 2) g14 rfl
  have f2 := frozen_blk (i := 2) g14
  have g15 := setCell_blk (i := 2) (x := .int .i64 (x.ov + 1)) g14
  have o11 : (W9.setCell ⟨n13, 2, none⟩ (.int .i64 (x.ov + 1))).ownsRow n₄ 3 1 (.slice p9 (LB + 1) c9) (LB + 1) _ := upd_own2 ((Upd.refl g14).set (i := 2) (.int .i64 (x.ov + 1))) (own_ty2 o10 g14 (by decide)) o10
  have BY := BX.setCell (p := ⟨n13, 2, none⟩) (show n₀ ≤ n13 by omega) (.int .i64 (x.ov + 1))
  have g2y := (setCell_off (b := n13) (i := 2) (x := .int .i64 (x.ov + 1)) (show n₀ + 1 + 1 ≠ n13 by omega)).trans g2x
  go_upto_region 5 with (fail)
  obtain ⟨WY, hWY⟩ : ∃ W : World, W = W9.setCell ⟨n13, 2, none⟩ (.int .i64 (x.ov + 1)) := ⟨_, rfl⟩
  rw [← hWY] at g15 o11 BY g2y ⊢
  clear hWY
  have hr := range_blk (cs := [Value.slice p9 (LB + 1) c9, .int .i64 T2, .int .i64 (x.ov + 1)]) g15
  have uR := (Upd.refl g2y).setCells (#[.slice p9 (LB + 1) c9, .int .i64 T2, .int .i64 (x.ov + 1)] : Array Value).toList rfl
  have oR := upd_own2 uR (own_ty2 o11 g2y (by decide)) o11
  have BR := uR.below BY (by omega)
  have hRes := uR.here
  rw [Array.toArray_toList] at hRes
  have htR : WY.there (n₀ + 1 + 1) 0 (#[.slice p9 (LB + 1) c9, .int .i64 T2, .int .i64 (x.ov + 1)] : Array Value).size := there_blk g2y rfl
  replace oR := hid oR
  replace BR := hid BR
  replace hRes := hid hRes
  go_wp2_with (first | refine wpList_load_mid rfl 52 _ rfl n13 0 rfl [Value.slice p9 (LB + 1) c9, .int .i64 T2, .int .i64 (x.ov + 1)] _ hr Tryz.underlying52 rfl (by kernel_rfl) ?_ | refine wpList_store_mid rfl 52 _ _ rfl (n₀ + 1 + 1) 0 #[.slice p9 (LB + 1) c9, .int .i64 T2, .int .i64 (x.ov + 1)] rfl rfl htR (by kernel_rfl) (way_one _ _ _ _ _) ?_)
  exact outRowT2 (ty := 52) rfl hRes.out rfl rfl rfl (by kernel_rfl) (by kernel_rfl) ⟨.slice p9 (LB + 1) c9, by (rw [hans.out]; first | rfl | simp), by first | exact own_mono oR.out (by omega) | (rw [List.flatMap_append]; exact own_mono oR.out (by omega)) | simpa using own_mono oR.out (show n₀ ≤ n₄ by omega), BR.out⟩
 | false =>
  have hr := range_blk (cs := [Value.slice p9 (LB + 1) c9, .int .i64 T2, .int .i64 x.ov]) g14
  have uR := (Upd.refl g2x).setCells (#[.slice p9 (LB + 1) c9, .int .i64 T2, .int .i64 x.ov] : Array Value).toList rfl
  have oR := upd_own2 uR (own_ty2 o10 g2x (by decide)) o10
  have BR := uR.below BX (by omega)
  have hRes := uR.here
  rw [Array.toArray_toList] at hRes
  have htR : W9.there (n₀ + 1 + 1) 0 (#[.slice p9 (LB + 1) c9, .int .i64 T2, .int .i64 x.ov] : Array Value).size := there_blk g2x rfl
  replace oR := hid oR
  replace BR := hid BR
  replace hRes := hid hRes
  go_wp2_with (first | refine wpList_load_mid rfl 52 _ rfl n13 0 rfl [Value.slice p9 (LB + 1) c9, .int .i64 T2, .int .i64 x.ov] _ hr Tryz.underlying52 rfl (by kernel_rfl) ?_ | refine wpList_store_mid rfl 52 _ _ rfl (n₀ + 1 + 1) 0 #[.slice p9 (LB + 1) c9, .int .i64 T2, .int .i64 x.ov] rfl rfl htR (by kernel_rfl) (way_one _ _ _ _ _) ?_)
  exact outRowT2 (ty := 52) rfl hRes.out rfl rfl rfl (by kernel_rfl) (by kernel_rfl) ⟨.slice p9 (LB + 1) c9, by (rw [hans.out]; first | rfl | simp), by first | exact own_mono oR.out (by omega) | (rw [List.flatMap_append]; exact own_mono oR.out (by omega)) | simpa using own_mono oR.out (show n₀ ≤ n₄ by omega), BR.out⟩
end
end Go.Proofs.YtempicociampoaaGreatDoor
