/- The walks of lines.set and lines.Of (printed by gen_lno.py). -/
import Derived.Test.YtempicociampoaaGreatDoorLnN
import Derived.Test.YtempicociampoaaGreatDoorJ21
namespace Go.Proofs.YtempicociampoaaGreatDoor
open Go.RowKit Go.Shelf Go.Lib

theorem piece_size (s : ByteArray) (k : Nat) : (pieceAt s k).size ≤ s.size := by
 unfold pieceAt
 rw [ByteArray.size_extract]; omega
theorem items_all {P : It → Prop} {kind ind c : Int} {ws : List ByteArray} (h1 : ∀ s : ByteArray, s.size ≤ 2000000 → P (boxT s)) (h2 : P (penT c)) (h3 : P spaceT) (h4 : P tieT) (h5 : P ⟨1, ind, 0, 0, 0, eb0⟩) (hs : ∀ s ∈ ws, s.size ≤ 2000000) :
  ∀ k, ∀ x ∈ itemsTo kind ind c ws k, P x := by
 intro k
 induction k with
 | zero =>
  intro x hx
  unfold itemsTo beginI at hx
  split at hx
  ·rw [List.mem_singleton.1 hx]; exact h5
  ·split at hx
   ·rcases List.mem_cons.1 hx with rfl | hx
    ·exact h1 _ (by decide)
    ·rw [List.mem_singleton.1 hx]; exact h4
   ·cases hx
 | succ k ih =>
  intro x hx
  have hg : (ws.getD k eb0).size ≤ 2000000 := by
   by_cases hk : k < ws.length
   ·rw [List.getD_eq_getElem?_getD, List.getElem?_eq_getElem hk]; exact hs _ (List.getElem_mem _)
   ·rw [List.getD_eq_getElem?_getD, List.getElem?_eq_none (by omega)]; decide
  rw [itemsTo, List.append_assoc] at hx
  rcases List.mem_append.1 hx with hx | hx
  ·exact ih x hx
  ·rcases List.mem_append.1 hx with hx | hx
   ·split at hx
    ·rw [List.mem_singleton.1 hx]; exact h3
    ·cases hx
   ·split at hx
    ·rw [List.mem_singleton.1 hx]; exact h1 _ hg
    ·unfold wordI pcIts at hx
     obtain ⟨y, hy, hx⟩ := List.mem_flatMap.1 hx
     rcases List.mem_append.1 hx with hx | hx
     ·split at hx
      ·rw [List.mem_singleton.1 hx]; exact h2
      ·cases hx
     ·rw [List.mem_singleton.1 hx]
      unfold pcsL pcsTo at hy
      obtain ⟨i, -, rfl⟩ := List.mem_map.1 hy
      exact h1 _ (Nat.le_trans (piece_size _ i) hg)
theorem ok_of {x : It} {k y : Int} (h1 : x.kind = k) (h2 : w64 x.w) (h3 : x.y = y) (h4 : x.z = y) {q : Int} (h5 : x.cost = q) (h6 : w64 k) (h7 : w64 y) (h8 : w64 q := by constructor <;> decide) : x.ok :=
 ⟨by rw [h1]; exact h6, h2, by rw [h3]; exact h7, by rw [h4]; exact h7, by rw [h5]; exact h8⟩
theorem items_ok {kind ind c : Int} {ws : List ByteArray} (hc : w64 c) (hi : w64 ind) (hs : ∀ s ∈ ws, s.size ≤ 2000000) : ∀ x ∈ itemsOf kind ind c ws, x.ok := by
 intro x hx
 unfold itemsOf at hx
 split at hx
 ·cases hx
 ·refine items_all (P := It.ok) (fun s h => ?_) ?_ ?_ ?_ ?_ hs _ x hx
  ·have := tm_bd s
   exact ok_of (k := 1) (y := 0) (q := 0) rfl ⟨by dsimp only [boxT]; omega, by dsimp only [boxT]; omega⟩ rfl rfl rfl (by constructor <;> decide) (by constructor <;> decide)
  ·exact ok_of (k := 3) (y := 0) (q := c) rfl (by constructor <;> (dsimp only [penT]; omega)) rfl rfl rfl (by constructor <;> decide) (by constructor <;> decide) hc
  ·exact ⟨by constructor <;> decide, by constructor <;> decide, by constructor <;> decide, by constructor <;> decide, by constructor <;> decide⟩
  ·exact ⟨by constructor <;> decide, by constructor <;> decide, by constructor <;> decide, by constructor <;> decide, by constructor <;> decide⟩
  ·exact ok_of (k := 1) (y := 0) (q := 0) rfl hi rfl rfl rfl (by constructor <;> decide) (by constructor <;> decide)
/-- the lines of a part -/
noncomputable def ofL (kind : Int) (ws : List ByteArray) (a c d e : Int) : List Ln :=
 if kind = 4 then [⟨4, false, false, false, []⟩] else if ws = [] then [] else linesL (itemsOf kind e d ws) a (cutI a 0 10000) (cutI c 0 10000) kind (-1) true (bestS (itemsOf kind e d ws) (cutI a 0 10000) (cutI c 0 10000)).br
set_option maxRecDepth 100000 in
set_option maxHeartbeats 1000000 in
theorem lset_any (kind : Int) (p : Option Addr) (L cap : Nat) (a b c d e : Int) (w : World) :
  Calls Tryz.prog 26 #[.int .i64 kind, .slice p L cap, .agg #[.int .i64 a, .int .i64 b, .int .i64 c, .int .i64 d, .int .i64 e]] w fun r w' =>
   r = .returned (.func (.func 47) #[] #[.pointer (some ⟨w.heap.size + 1, 0, none⟩), .pointer (some ⟨w.heap.size + 2, 0, none⟩), .pointer (some ⟨w.heap.size, 0, none⟩)]) ∧
   w' = ((w.alloc (.cells #[.int .i64 kind] 3)).alloc (.cells #[.slice p L cap] 40)).alloc (.cells #[.int .i64 a, .int .i64 b, .int .i64 c, .int .i64 d, .int .i64 e] 26) := by
 go_enter Tryz.func26, Tryz.ntmps26
 go_wp2
 go_ret
 exact ⟨rfl, rfl⟩
theorem set_boxes {kind : Int} {p : Option Addr} {L cap : Nat} {a b c d e : Int} {w w' : World} (h : w' = ((w.alloc (.cells #[.int .i64 kind] 3)).alloc (.cells #[.slice p L cap] 40)).alloc (.cells #[.int .i64 a, .int .i64 b, .int .i64 c, .int .i64 d, .int .i64 e] 26)) :
  w'.heap[w.heap.size]? = some (.cells #[.int .i64 kind] 3 (0, 0)) ∧ w'.heap[w.heap.size + 1]? = some (.cells #[.slice p L cap] 40 (0, 0)) ∧ w'.heap[w.heap.size + 2]? = some (.cells #[.int .i64 a, .int .i64 b, .int .i64 c, .int .i64 d, .int .i64 e] 26 (0, 0)) ∧ Kept 0 w w' ∧ Below w.heap.size w w' := by
 subst h
 have z1 : (w.alloc (.cells #[.int .i64 kind] 3)).heap.size = w.heap.size + 1 := World.size_alloc _ _
 have z2 : ((w.alloc (.cells #[.int .i64 kind] 3)).alloc (.cells #[.slice p L cap] 40)).heap.size = w.heap.size + 2 := by rw [World.size_alloc, z1]
 refine ⟨?_, ?_, ?_, ((Kept.alloc 0 _ _).trans (Kept.alloc 0 _ _)).trans (Kept.alloc 0 _ _), (((Below.refl _ w).alloc (Nat.le_refl _) _).alloc (by simp) _).alloc (by simp; omega) _⟩
 ·exact (Kept.alloc 0 _ _).same _ _ ((Kept.alloc 0 _ _).same _ _ (World.alloc_heap_new w _) (.inl rfl)) (.inl rfl)
 ·refine (Kept.alloc 0 _ _).same _ _ ?_ (.inl rfl)
  rw [← z1]; exact World.alloc_heap_new _ _
 ·rw [← z2]; exact World.alloc_heap_new _ _
set_option maxRecDepth 100000 in
set_option maxHeartbeats 4000000 in
theorem LOf_any (kind : Int) (wv : Value) (ws : List ByteArray) (a b c d e : Int) (w : World) (hws : ws.length ≤ 300) (hsz : ∀ s ∈ ws, s.size ≤ 2000000) (hsl : Sl w 1 encS wv ws) (ha : w64 a) (hd : w64 d) (he : w64 e) (hT : Tabs w) (hR : Asp w) :
  Calls Tryz.prog 13 #[.agg #[.int .i64 kind, wv], .agg #[.int .i64 a, .int .i64 b, .int .i64 c, .int .i64 d, .int .i64 e]] w fun r w' => ∃ v, r = .returned v ∧ LnsAt w' v (ofL kind ws a c d e) ∧ Below w.heap.size w w' := by
 obtain ⟨pw, cw, rfl, -⟩ := hsl.shape
 obtain ⟨n₀, hn₀⟩ : ∃ n, w.heap.size = n := ⟨_, rfl⟩
 rw [hn₀]
 have hof : ofL kind ws a c d e = if kind = 4 then [⟨4, false, false, false, []⟩] else if ws = [] then [] else linesL (itemsOf kind e d ws) a (cutI a 0 10000) (cutI c 0 10000) kind (-1) true (bestS (itemsOf kind e d ws) (cutI a 0 10000) (cutI c 0 10000)).br := rfl
 have hlen : (linesL (itemsOf kind e d ws) a (cutI a 0 10000) (cutI c 0 10000) kind (-1) true (bestS (itemsOf kind e d ws) (cutI a 0 10000) (cutI c 0 10000)).br).length ≤ 100000 := by
  rw [linesL_len]
  have := (best_bd (itemsOf kind e d ws) (cutI a 0 10000) (cutI c 0 10000)).1
  omega
 have cI := hid (fun (W : World) (h : Below n₀ w W) => Of_any kind (.slice pw ws.length cw) ws a b c d e W hws hsz ((Kept.of_below (hn₀ ▸ h : Below w.heap.size w W) 0).sl hsl) (hT.below (hn₀ ▸ h)) (hR.below (hn₀ ▸ h)))
 have cC := hid (fun (W : World) (iq : Option Addr) (ic g : Nat) (h : SetR (itemsOf kind e d ws) iq (itemsOf kind e d ws).length ic kind a b c d e (g + 1) (g + 2) g W) => CollectL_any W 47 #[.pointer (some ⟨g + 1, 0, none⟩), .pointer (some ⟨g + 2, 0, none⟩), .pointer (some ⟨g, 0, none⟩)] (SetR (itemsOf kind e d ws) iq (itemsOf kind e d ws).length ic kind a b c d e (g + 1) (g + 2) g) (linesL (itemsOf kind e d ws) a (cutI a 0 10000) (cutI c 0 10000) kind (-1) true (bestS (itemsOf kind e d ws) (cutI a 0 10000) (cutI c 0 10000)).br) hlen
  (enters_of Tryz.func47 (by kernel_rfl) rfl) (fun B A C hk h => h.kept hk) (fun V hV => h.kept (Kept.of_below hV 0)) (set1_seq rfl ha (items_ok hd he hsz)))
 obtain ⟨LS, hLS⟩ : ∃ y, linesL (itemsOf kind e d ws) a (cutI a 0 10000) (cutI c 0 10000) kind (-1) true (bestS (itemsOf kind e d ws) (cutI a 0 10000) (cutI c 0 10000)).br = y := ⟨_, rfl⟩
 rw [hLS] at hof cC
 clear hLS hlen
 obtain ⟨IT, hIT⟩ : ∃ y, itemsOf kind e d ws = y := ⟨_, rfl⟩
 rw [hIT] at cI cC
 clear hIT
 obtain ⟨IL, hIL⟩ : ∃ y, IT.length = y := ⟨_, rfl⟩
 rw [hIL] at cI cC
 replace hIL := hid hIL
 have hwe : ws = [] ↔ ws.length = 0 := List.length_eq_zero_iff.symm
 obtain ⟨OL, hOL⟩ : ∃ y, ofL kind ws a c d e = y := ⟨_, rfl⟩
 rw [hOL] at hof ⊢
 obtain ⟨WN, hWN⟩ : ∃ y, ws.length = y := ⟨_, rfl⟩
 simp only [hwe, hWN] at hof
 rw [hWN] at cI ⊢
 clear hwe hOL hWN hsl hws hsz
 replace hof := hid hof
 obtain ⟨W1, hW1⟩ : ∃ W : World, W = (w.alloc (.cells #[.int .i64 kind, .slice pw WN cw] 24)).alloc (.cells #[.int .i64 a, .int .i64 b, .int .i64 c, .int .i64 d, .int .i64 e] 26) := ⟨_, rfl⟩
 have z1 : (w.alloc (.cells #[.int .i64 kind, .slice pw WN cw] 24)).heap.size = n₀ + 1 := by rw [World.size_alloc, hn₀]
 have g0 : W1.heap[n₀]? = some (.cells #[.int .i64 kind, .slice pw WN cw] 24 (0, 0)) := by
  rw [hW1]
  refine (Kept.alloc 0 _ _).same _ _ ?_ (.inl rfl)
  rw [← hn₀]; exact World.alloc_heap_new w _
 have g1 : W1.heap[n₀ + 1]? = some (.cells #[.int .i64 a, .int .i64 b, .int .i64 c, .int .i64 d, .int .i64 e] 26 (0, 0)) := by rw [hW1, ← z1]; exact World.alloc_heap_new _ _
 have B1 : Below n₀ w W1 := by rw [hW1, ← hn₀]; exact ((Below.refl _ w).alloc (Nat.le_refl _) _).alloc (by simp) _
 have c0 : W1.cell? ⟨n₀, 0, none⟩ = some (.int .i64 kind) := cell_blk (i := 0) g0 rfl
 have c1 : W1.cell? ⟨n₀, 1, none⟩ = some (.slice pw WN cw) := cell_blk (i := 1) g0 rfl
 have hz1' : n₀ + 1 < W1.heap.size := (Array.getElem?_eq_some_iff.1 g1).1
 clear z1
 go_enter Tryz.func13, Tryz.ntmps13
 go_upto_region 1 with (fail)
 rw [← hW1]
 clear hW1
 try simp only [hn₀]
 by_cases hk4 : kind = 4
 ·subst hk4
  have hres := hid (show OL = [⟨4, false, false, false, []⟩] by rw [hof.out, if_pos rfl])
  have gN := World.alloc_heap_new W1 (.cells #[.int .i64 4, .bool false, .bool false, .bool false, .slice none 0 0] 44)
  have BN := B1.alloc (by omega) (.cells #[.int .i64 4, .bool false, .bool false, .bool false, .slice none 0 0] 44)
  replace gN := hid gN
  replace BN := hid BN
  clear g0 g1 cI cC
  go_wp2_with (fail)
  go_ret
  refine ⟨_, rfl, ⟨[(.slice none 0 0, ⟨4, false, false, false, []⟩)], ?_, by rw [hres.out]; rfl, fun y hy => ?_⟩, BN.out⟩
  ·exact sl_of_block (l := [((.slice none 0 0 : Value), (⟨4, false, false, false, []⟩ : Ln))]) (cap := 1) gN.out rfl (fun _ _ => rfl) (Nat.le_refl _) (by decide)
  ·obtain rfl := List.mem_singleton.1 hy
   exact ⟨.inl ⟨rfl, rfl⟩, fun a n m e => by cases e⟩
 ·have hk4b : (kind == 4) = false := by simpa using hk4
  by_cases hw0 : WN = 0
  ·subst hw0
   have hres := hid (show OL = [] by rw [hof.out, if_neg hk4, if_pos rfl])
   replace hk4 := hid hk4
   clear g0 g1 cI cC
   go_wp2_with (fail)
   go_ret
   exact ⟨_, rfl, ⟨[], .inl ⟨rfl, rfl⟩, by rw [hres.out]; rfl, fun y hy => by cases hy⟩, B1⟩
  ·have hw0b : ((WN : Int) == 0) = false := by simp; omega
   have hres := hid (show OL = LS by rw [hof.out, if_neg hk4, if_neg hw0])
   replace hk4 := hid hk4
   replace hw0 := hid hw0
   go_upto_region 5 with (fail)
   have BD : Below n₀ w W1.drew := B1.drewN 1
   have hz1 : n₀ ≤ W1.drew.heap.size := by have : W1.drew.heap.size = W1.heap.size := rfl; omega
   have g0d : W1.drew.heap[n₀]? = _ := g0
   have g1d : W1.drew.heap[n₀ + 1]? = _ := g1
   have hst : (fun V => Below W1.drew.heap.size W1.drew V) W1.drew := Below.refl _ _
   have kK := hid (fun V (h : Below W1.drew.heap.size W1.drew V) => cell_blk (i := 0) ((Kept.of_below h 0).same _ _ g0d (.inl rfl)) rfl)
   have kP := hid (fun V (h : Below W1.drew.heap.size W1.drew V) => range_blk (cs := [.int .i64 kind, .slice pw WN cw]) ((Kept.of_below h 0).same _ _ g0d (.inl rfl)))
   have kS := hid (fun V (h : Below W1.drew.heap.size W1.drew V) => range_blk (cs := [.int .i64 a, .int .i64 b, .int .i64 c, .int .i64 d, .int .i64 e]) ((Kept.of_below h 0).same _ _ g1d (.inl rfl)))
   replace cI := hid (fun V (h : Below W1.drew.heap.size W1.drew V) => cI.out V (BD.trans (h.mono hz1)))
   clear g0 g1 g0d g1d c0 c1 B1 hof
   refine wp_region_held_drew (S := (fun V => Below W1.drew.heap.size W1.drew V)) (by kernel_rfl) hst (fun hHeld => ?_)
   generalize W1.drew = W5 at *
   refine wpAnyH_take (i := 0) (oi := ⟨some 16, _, _, _, _, _⟩) (v := ?_) rfl (by kernel_rfl) (by kernel_rfl) (by kernel_rfl) (fun _ _ _ h => h) (Or.inl ⟨by rfl, ?_⟩) (by assumption) ?_
   rotate_left
   ·intro w hSw; (try dsimp only at hSw); go_simp <;> with_reducible rfl
   try simp only [Act.put, List.setIfInBounds_toArray, List.set_cons_zero, List.set_cons_succ]
   refine wpAnyH_take (i := 1) (oi := ⟨some 17, _, _, _, _, _⟩) (v := ?_) rfl (by kernel_rfl) (by kernel_rfl) (by kernel_rfl) (fun _ _ _ h => h) (Or.inl ⟨by rfl, ?_⟩) (by assumption) ?_
   rotate_left
   ·intro w hSw; (try dsimp only at hSw); have h9 := kK.out _ hSw; go_simp <;> with_reducible rfl
   try simp only [Act.put, List.setIfInBounds_toArray, List.set_cons_zero, List.set_cons_succ]
   refine wpAnyH_take (i := 2) (oi := ⟨some 18, _, _, _, _, _⟩) rfl (by kernel_rfl) (by kernel_rfl) (by kernel_rfl) (fun _ _ _ h => h) (yieldsIf_load_mid (by rfl) 24 _ rfl n₀ 0 rfl [.int .i64 kind, .slice pw WN cw] _ (fun w h => kP.out w h) Tryz.underlying24 rfl (by kernel_rfl)) (by assumption) ?_
   try simp only [Act.put, List.setIfInBounds_toArray, List.set_cons_zero, List.set_cons_succ]
   refine wpAnyH_take (i := 3) (oi := ⟨some 19, _, _, _, _, _⟩) rfl (by kernel_rfl) (by kernel_rfl) (by kernel_rfl) (fun _ _ _ h => h) (yieldsIf_load_mid (by rfl) 26 _ rfl (n₀ + 1) 0 rfl [.int .i64 a, .int .i64 b, .int .i64 c, .int .i64 d, .int .i64 e] _ (fun w h => kS.out w h) Tryz.underlying26 rfl (by kernel_rfl)) (by assumption) ?_
   try simp only [Act.put, List.setIfInBounds_toArray, List.set_cons_zero, List.set_cons_succ]
   refine wpAnyH_take (i := 5) (oi := ⟨some 21, _, _, _, _, _⟩) rfl (by kernel_rfl) (by kernel_rfl) (by kernel_rfl) (fun _ _ _ h => h) (yieldsIf_load_mid (by rfl) 26 _ rfl (n₀ + 1) 0 rfl [.int .i64 a, .int .i64 b, .int .i64 c, .int .i64 d, .int .i64 e] _ (fun w h => kS.out w h) Tryz.underlying26 rfl (by kernel_rfl)) (by assumption) ?_
   try simp only [Act.put, List.setIfInBounds_toArray, List.set_cons_zero, List.set_cons_succ]
   refine wpAnyH_ready (rs := [4]) (by kernel_rfl) (by simp) ?_
   refine AllReadyH.cons (o := ⟨some 20, _, _, _, _, _⟩) rfl (fun K hK => ?_) AllReadyH.nil
   go_simp
   refine (cI.out _ hHeld).mono ?_
   rintro r w7 ⟨v7, rfl, o7, b7⟩
   obtain ⟨iq, ic, rfl, -, -⟩ := owns_shape o7
   have sl7 : Sl w7 6 encIt (.slice iq IL ic) IT := by
    have h := o7
    rw [← hIL.out] at h ⊢
    exact sl_of_owns (fun _ _ => rfl) h
   have b8 := hHeld.trans (b7.mono hHeld.size)
   clear hHeld b7 o7
   refine hK.out _ _ (b8) (fun hHeld => ?_)
   clear hK K
   try simp only [Act.put, List.setIfInBounds_toArray, List.set_cons_zero, List.set_cons_succ]
   refine wpAnyH_ready (rs := [6]) (by kernel_rfl) (by simp) ?_
   refine AllReadyH.cons (o := ⟨some 22, _, _, _, _, _⟩) rfl (fun K hK => ?_) AllReadyH.nil
   go_simp
   refine (lset_any kind iq IL ic a b c d e w7).mono ?_
   rintro r w9 ⟨rfl, hw9⟩
   obtain ⟨g7, g8, g9, k9, bS⟩ := set_boxes hw9
   have b8 := hHeld.trans (bS.mono hHeld.size)
   have sl9 := (Kept.of_below bS 0).sl sl7
   clear hHeld hw9 k9 bS
   refine hK.out _ _ (b8) (fun hHeld => ?_)
   clear hK K
   try simp only [Act.put, List.setIfInBounds_toArray, List.set_cons_zero, List.set_cons_succ]
   refine wpAnyH_ready (rs := [7]) (by kernel_rfl) (by simp) ?_
   refine AllReadyH.cons (o := ⟨some 23, _, _, _, _, _⟩) rfl (fun K hK => ?_) AllReadyH.nil
   go_simp
   refine (cC.out w9 iq ic w7.heap.size ⟨sl9, g8, g9, g7⟩).mono ?_
   rintro r wA ⟨vA, rfl, hLn, bA⟩
   have b8 := hHeld.trans (bA.mono hHeld.size)
   clear hHeld bA
   refine hK.out _ _ (b8) (fun hHeld => ?_)
   clear hK K
   try simp only [Act.put, List.setIfInBounds_toArray, List.set_cons_zero, List.set_cons_succ]
   refine wpAnyH_take (i := 8) (oi := ⟨some 4, _, _, _, _, _⟩) (v := ?_) rfl (by kernel_rfl) (by kernel_rfl) (by kernel_rfl) (fun _ _ _ h => h) (Or.inl ⟨by rfl, ?_⟩) (by assumption) ?_
   rotate_left
   ·intro w hSw; (try dsimp only at hSw); go_simp <;> with_reducible rfl
   try simp only [Act.put, List.setIfInBounds_toArray, List.set_cons_zero, List.set_cons_succ]
   refine wpAnyH_done (by kernel_rfl) ?_ _
   have BZ := BD.trans (hHeld.mono hz1)
   clear hHeld
   go_wp2_with (fail)
   go_ret
   exact ⟨vA, rfl, by rw [hres.out]; exact hLn, BZ⟩
end Go.Proofs.YtempicociampoaaGreatDoor
