/- The walk of chapter 11's wakes. -/
import Derived.Test.YtgbfekimflnaiaaDoorMkJ
namespace Go.Proofs.YtgbfekimflnaiaaDoor
open Go.RowKit Go.Shelf Go.Lib

def src1 : ByteArray := ⟨#[61, 32, 65, 10, 98, 32, 32, 99, 10, 100, 10, 45, 32, 120, 10, 10, 45, 45, 45, 10, 101]⟩
def src2 : ByteArray := ⟨#[61, 32, 65, 10, 10, 98, 32, 99, 32, 100, 10, 10, 45, 32, 120, 10, 10, 45, 45, 45, 10, 10, 101]⟩
theorem wake1 : parseR src1.data.toList = (0, [(2, [[65]]), (1, [[98], [99], [100]]), (3, [[120]]), (4, []), (1, [[101]])]) := by decide +kernel
theorem wake2 : parseR [61, 32] = (15, []) := by decide +kernel
theorem wake3 : parseR [97, 9, 98] = (15, []) := by decide +kernel
theorem wake4 : wdsB ⟨#[32, 97, 32, 32, 98]⟩ = [⟨#[97]⟩, ⟨#[98]⟩] := by decide +kernel

def wantL (n : Nat) : List Pt := [(2, .slice (some ⟨n, 0, none⟩) 1 1, [⟨#[65]⟩]), (1, .slice (some ⟨n + 1, 0, none⟩) 3 3, [⟨#[98]⟩, ⟨#[99]⟩, ⟨#[100]⟩]), (3, .slice (some ⟨n + 1 + 1, 0, none⟩) 1 1, [⟨#[120]⟩]), (4, .slice none 0 0, []), (1, .slice (some ⟨n + 1 + 1 + 1, 0, none⟩) 1 1, [⟨#[101]⟩])]
def wantW (w : World) : World := ((((w.alloc (.cells #[.string ⟨#[65]⟩] 9)).alloc (.cells #[.string ⟨#[98]⟩, .string ⟨#[99]⟩, .string ⟨#[100]⟩] 9)).alloc (.cells #[.string ⟨#[120]⟩] 9)).alloc (.cells #[.string ⟨#[101]⟩] 9)).alloc (.cells #[.int .i64 2, .slice (some ⟨w.heap.size, 0, none⟩) 1 1, .int .i64 1, .slice (some ⟨w.heap.size + 1, 0, none⟩) 3 3, .int .i64 3, .slice (some ⟨w.heap.size + 1 + 1, 0, none⟩) 1 1, .int .i64 4, .slice none 0 0, .int .i64 1, .slice (some ⟨w.heap.size + 1 + 1 + 1, 0, none⟩) 1 1] 41)
theorem want_below (w : World) : Below w.heap.size w (wantW w) := by
  unfold wantW
  exact (((((Below.refl _ w).alloc (Nat.le_refl _) _).alloc (by simp) _).alloc (by simp; omega) _).alloc (by simp; omega) _).alloc (by simp; omega) _
theorem want_heap (w : World) : (wantW w).heap[w.heap.size]? = some (.cells #[.string ⟨#[65]⟩] 9 (0, 0)) ∧ (wantW w).heap[w.heap.size + 1]? = some (.cells #[.string ⟨#[98]⟩, .string ⟨#[99]⟩, .string ⟨#[100]⟩] 9 (0, 0)) ∧ (wantW w).heap[w.heap.size + 1 + 1]? = some (.cells #[.string ⟨#[120]⟩] 9 (0, 0)) ∧ (wantW w).heap[w.heap.size + 1 + 1 + 1]? = some (.cells #[.string ⟨#[101]⟩] 9 (0, 0)) ∧ (wantW w).heap[w.heap.size + 1 + 1 + 1 + 1]? = some (.cells #[.int .i64 2, .slice (some ⟨w.heap.size, 0, none⟩) 1 1, .int .i64 1, .slice (some ⟨w.heap.size + 1, 0, none⟩) 3 3, .int .i64 3, .slice (some ⟨w.heap.size + 1 + 1, 0, none⟩) 1 1, .int .i64 4, .slice none 0 0, .int .i64 1, .slice (some ⟨w.heap.size + 1 + 1 + 1, 0, none⟩) 1 1] 41 (0, 0)) := by
  unfold wantW
  have up : ∀ (W : World) (o : Obj) {b : Nat} {x : Obj}, W.heap[b]? = some x → (W.alloc o).heap[b]? = some x := fun W o b x h => (Below.heap_alloc W o b (Array.getElem?_eq_some_iff.1 h).1).trans h
  have nw : ∀ (W : World) (o : Obj) (b : Nat), b = W.heap.size → (W.alloc o).heap[b]? = some o := fun W o b h => by rw [h]; exact World.alloc_heap_new W o
  exact ⟨up _ _ (up _ _ (up _ _ (up _ _ (nw _ _ _ rfl)))), up _ _ (up _ _ (up _ _ (nw _ _ _ (by simp)))), up _ _ (up _ _ (nw _ _ _ (by simp))), up _ _ (nw _ _ _ (by simp)), nw _ _ _ (by simp)⟩
theorem want_row (w : World) : Sl (wantW w) 2 encPt (.slice (some ⟨w.heap.size + 1 + 1 + 1 + 1, 0, none⟩) 5 5) (wantL w.heap.size) :=
  sl_of_block (l := wantL w.heap.size) (want_heap w).2.2.2.2 rfl (fun _ _ => rfl) (Nat.le_refl 5) (by decide)
theorem want_words (w : World) : ∀ x ∈ wantL w.heap.size, Sl (wantW w) 1 encT x.2.1 x.2.2 := by
  obtain ⟨h1, h2, h3, h4, -⟩ := want_heap w
  intro x hx
  simp only [wantL, List.mem_cons, List.not_mem_nil, or_false] at hx
  rcases hx with rfl | rfl | rfl | rfl | rfl
  · exact sl_of_block (enc := encT) (l := ([⟨#[65]⟩] : List ByteArray)) h1 rfl (fun _ _ => rfl) (Nat.le_refl 1) (by decide)
  · exact sl_of_block (enc := encT) (l := ([⟨#[98]⟩, ⟨#[99]⟩, ⟨#[100]⟩] : List ByteArray)) h2 rfl (fun _ _ => rfl) (Nat.le_refl 3) (by decide)
  · exact sl_of_block (enc := encT) (l := ([⟨#[120]⟩] : List ByteArray)) h3 rfl (fun _ _ => rfl) (Nat.le_refl 1) (by decide)
  · exact .inl ⟨rfl, rfl⟩
  · exact sl_of_block (enc := encT) (l := ([⟨#[101]⟩] : List ByteArray)) h4 rfl (fun _ _ => rfl) (Nat.le_refl 1) (by decide)
theorem want_sz (n : Nat) : ∀ x ∈ wantL n, ∀ s ∈ x.2.2, s.size ≤ 1000000 := by
  intro x hx
  simp only [wantL, List.mem_cons, List.not_mem_nil, or_false] at hx
  rcases hx with rfl | rfl | rfl | rfl | rfl <;> dsimp only <;> decide
theorem want_ln (n : Nat) : ∀ x ∈ wantL n, x.2.2.length ≤ 1000000 ∧ (joinB [32] (x.2.2.map fun s => s.data.toList)).length ≤ 1000000 := by
  intro x hx
  simp only [wantL, List.mem_cons, List.not_mem_nil, or_false] at hx
  rcases hx with rfl | rfl | rfl | rfl | rfl <;> dsimp only <;> decide
theorem allG_map (L : List Pt) : allG L = (L.map fun x => (x.1, x.2.2)).all fun p => goodB p.1 p.2 := by
  unfold allG; rw [List.all_map]; rfl
theorem want_good (n : Nat) : allG (wantL n) = true := by
  rw [allG_map]
  show (([(2, [⟨#[65]⟩]), (1, [⟨#[98]⟩, ⟨#[99]⟩, ⟨#[100]⟩]), (3, [⟨#[120]⟩]), (4, []), (1, [⟨#[101]⟩])] : List (Int × List ByteArray)).all fun p => goodB p.1 p.2) = true
  decide +kernel
theorem want_map (n : Nat) : (wantL n).map pt8 = [(2, [[65]]), (1, [[98], [99], [100]]), (3, [[120]]), (4, []), (1, [[101]])] := rfl
theorem want_src (n : Nat) : sourceR (wantL n) = ([61, 32, 65, 10, 10, 98, 32, 99, 32, 100, 10, 10, 45, 32, 120, 10, 10, 45, 45, 45, 10, 10, 101], 0) := by
  unfold sourceR
  rw [want_good, want_map]
  decide +kernel
def badL (n : Nat) : List Pt := [(1, .slice (some ⟨n, 0, none⟩) 2 2, [⟨#[61]⟩, ⟨#[97]⟩])]
theorem bad_good (n : Nat) : allG (badL n) = false := by
  rw [allG_map]
  show (([(1, [⟨#[61]⟩, ⟨#[97]⟩])] : List (Int × List ByteArray)).all fun p => goodB p.1 p.2) = false
  decide +kernel

set_option maxRecDepth 100000 in
set_option maxHeartbeats 4000000 in
theorem wakes_any (w : World) (hT : Tabs w) : Calls Tryd.prog 9 #[] w fun e w' => e = .returned (.bool true) ∧ Below w.heap.size w w' := by
  have cP1 := hid (Parse_any ⟨#[61, 32, 65, 10, 98, 32, 32, 99, 10, 100, 10, 45, 32, 120, 10, 10, 45, 45, 45, 10, 101]⟩ w hT (by decide))
  go_enter Tryd.func9, Tryd.ntmps9
  go_wp2_with (fail)
  refine cP1.out.mono ?_
  rintro e w1 ⟨v1, L1, n1, rfl, hp1, o1, s1, b1⟩
  have hp1' := hp1.symm.trans wake1
  obtain ⟨rfl, hL1⟩ := Prod.mk.inj hp1'
  obtain ⟨pv1, cv1, rfl, -, -⟩ := owns_shape o1
  have z1 : Sl w1 2 encPt (.slice pv1 L1.length cv1) L1 := sl_of_owns (fun _ _ => rfl) o1
  have zw := want_row w1
  have sw := want_words w1
  have bw := want_below w1
  clear hp1 hp1' o1 cP1
  obtain ⟨W2, hW2⟩ : ∃ V, wantW w1 = V := ⟨_, rfl⟩
  rw [hW2] at zw sw bw
  unfold wantW at hW2
  have B2 := b1.trans (bw.mono b1.size)
  have cS := hid (Source_any _ (wantL w1.heap.size) W2 zw sw (want_sz _) (by show (5 : Nat) ≤ 1000; omega) (want_ln _) (by rw [want_map]; decide +kernel) (hT.below B2))
  go_wp2_with (fail)
  refine cS.out.mono ?_
  rintro e w3 ⟨x, n, rfl, hx, b3⟩
  obtain ⟨hx1, rfl⟩ := Prod.mk.inj (hx.trans (want_src _))
  obtain rfl : x = ⟨#[61, 32, 65, 10, 10, 98, 32, 99, 32, 100, 10, 10, 45, 32, 120, 10, 10, 45, 45, 45, 10, 10, 101]⟩ := ba_ext8 hx1
  have B3 := B2.trans (b3.mono B2.size)
  clear hx hx1 cS
  have cP2 := hid (Parse_any ⟨#[61, 32]⟩ w3 (hT.below B3) (by decide))
  go_wp2_with (fail)
  refine cP2.out.mono ?_
  rintro e w4 ⟨v4, L4, n4, rfl, hp4, -, -, b4⟩
  obtain ⟨rfl, -⟩ := Prod.mk.inj (hp4.symm.trans wake2)
  have B4 := B3.trans (b4.mono B3.size)
  clear hp4 cP2
  have cP3 := hid (Parse_any ⟨#[97, 9, 98]⟩ w4 (hT.below B4) (by decide))
  go_wp2_with (fail)
  refine cP3.out.mono ?_
  rintro e w5 ⟨v5, L5, n5, rfl, hp5, -, -, b5⟩
  obtain ⟨rfl, -⟩ := Prod.mk.inj (hp5.symm.trans wake3)
  have B5 := B4.trans (b5.mono B4.size)
  clear hp5 cP3
  have q5 : Below W2.heap.size W2 w5 := b3.trans ((b4.mono b3.size).trans (b5.mono (Nat.le_trans b3.size b4.size)))
  have q1 : Below w1.heap.size w1 w5 := bw.trans (q5.mono bw.size)
  have cPa := hid (Parts_eq w5 _ _ L1 (wantL w1.heap.size) ((Kept.of_below q1 0).sl z1) ((Kept.of_below q5 0).sl zw) (fun x hx => (Kept.of_below q1 0).sl (s1 x hx)) (fun x hx => (Kept.of_below q5 0).sl (sw x hx)) hL1)
  clear hL1 z1 s1 hW2
  go_wp2_with (fail)
  refine cPa.out.mono ?_
  rintro e w6 ⟨rfl, b6⟩
  have B6 := B5.trans (b6.mono B5.size)
  have q6 : Below W2.heap.size W2 w6 := q5.trans (b6.mono q5.size)
  have cG := hid (Good_any _ (wantL w1.heap.size) w6 ((Kept.of_below q6 0).sl zw) (fun x hx => (Kept.of_below q6 0).sl (sw x hx)) (want_sz _) (hT.below B6))
  rw [want_good] at cG
  clear cPa
  go_wp2_with (fail)
  refine cG.out.mono ?_
  rintro e w7 ⟨rfl, b7⟩
  have B7 := B6.trans (b7.mono B6.size)
  obtain ⟨W8, hW8⟩ : ∃ V, (w7.alloc (.cells #[.string ⟨#[61]⟩, .string ⟨#[97]⟩] 9)).alloc (.cells #[.int .i64 1, .slice (some ⟨w7.heap.size, 0, none⟩) 2 2] 41) = V := ⟨_, rfl⟩
  have h8 : W8.heap[w7.heap.size + 1]? = some (.cells #[.int .i64 1, .slice (some ⟨w7.heap.size, 0, none⟩) 2 2] 41 (0, 0)) := by
    rw [← hW8]
    have := World.alloc_heap_new (w7.alloc (.cells #[.string ⟨#[61]⟩, .string ⟨#[97]⟩] 9)) (.cells #[.int .i64 1, .slice (some ⟨w7.heap.size, 0, none⟩) 2 2] 41)
    rwa [World.size_alloc] at this
  have h8b : W8.heap[w7.heap.size]? = some (.cells #[.string ⟨#[61]⟩, .string ⟨#[97]⟩] 9 (0, 0)) := by
    rw [← hW8]
    exact (Kept.alloc 0 _ _).same _ _ (World.alloc_heap_new w7 _) (.inl rfl)
  have B8 : Below w.heap.size w W8 := by rw [← hW8]; exact (B7.alloc B7.size _).alloc (by have := B7.size; simp; omega) _
  have cG2 := hid (Good_any (.slice (some ⟨w7.heap.size + 1, 0, none⟩) 1 1) (badL w7.heap.size) W8 (sl_of_block (l := badL w7.heap.size) h8 rfl (fun _ _ => rfl) (Nat.le_refl 1) (by decide))
    (fun x hx => by obtain rfl := List.mem_singleton.1 hx; exact sl_of_block (enc := encT) (l := ([⟨#[61]⟩, ⟨#[97]⟩] : List ByteArray)) h8b rfl (fun _ _ => rfl) (Nat.le_refl 2) (by decide))
    (fun x hx => by obtain rfl := List.mem_singleton.1 hx; dsimp only; decide) (hT.below B8))
  rw [bad_good] at cG2
  clear cG h8 h8b zw sw
  go_wp2_with (fail)
  refine cG2.out.mono ?_
  rintro e w9 ⟨rfl, b9⟩
  have B9 := B8.trans (b9.mono B8.size)
  have cW := hid (Words_any ⟨#[32, 97, 32, 32, 98]⟩ w9 (by decide))
  rw [wake4] at cW
  clear cG2 hW8
  go_wp2_with (fail)
  refine cW.out.mono ?_
  rintro e w10 ⟨v, rfl, o10, b10⟩
  obtain ⟨p10, c10, rfl, -, -⟩ := owns_shape o10
  have B10 := B9.trans (b10.mono B9.size)
  obtain ⟨W11, hW11⟩ : ∃ V, w10.alloc (.cells #[.string ⟨#[97]⟩, .string ⟨#[98]⟩] 9) = V := ⟨_, rfl⟩
  have h11 : W11.heap[w10.heap.size]? = some (.cells #[.string ⟨#[97]⟩, .string ⟨#[98]⟩] 9 (0, 0)) := by rw [← hW11]; exact World.alloc_heap_new w10 _
  have B11 : Below w.heap.size w W11 := by rw [← hW11]; exact B10.alloc B10.size _
  have z10 : Sl W11 1 encT (.slice p10 2 c10) [⟨#[97]⟩, ⟨#[98]⟩] := by rw [← hW11]; exact (Kept.alloc 0 _ _).sl (sl_of_owns (fun _ _ => rfl) o10)
  have cX := hid (Texts_eq W11 _ _ [⟨#[97]⟩, ⟨#[98]⟩] z10 (sl_of_block (enc := encT) (l := ([⟨#[97]⟩, ⟨#[98]⟩] : List ByteArray)) h11 rfl (fun _ _ => rfl) (Nat.le_refl 2) (by decide)))
  simp only [List.length_cons, List.length_nil, Nat.reduceAdd]
  clear cW o10
  go_wp2_with (fail)
  refine cX.out.mono ?_
  rintro e w12 ⟨rfl, nd, rfl⟩
  go_wp2_with (fail)
  go_ret
  exact ⟨rfl, B11.drewN _⟩
end Go.Proofs.YtgbfekimflnaiaaDoor
