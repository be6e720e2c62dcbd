/- The walk of Best (printed by gen_lnj.py). -/
import Derived.Test.YtempicociampoaaGreatDoorLnI
namespace Go.Proofs.YtempicociampoaaGreatDoor
open Go.RowKit Go.Shelf Go.Lib

/-- a way is answered -/
def WayW (V : Wy) (lo : Nat) (e : Ending) (W : World) : Prop := ∃ v : Value, e = .returned (.agg (wayV v V)) ∧ Sl W 1 encI v V.br ∧ ∀ (a : Addr) (n m : Nat), v = .slice (some a) n m → lo ≤ a.block
theorem RowOk.way {W : World} {G : Nat} {q : Option Addr} {n m : Nat} {a b : Int} {d : Bool} {c : Option Wy} (h : RowOk W G (.slice q n m, a, b, d) c) :
  d = c.isSome ∧ a = (c.getD ⟨[], 0, 0⟩).tot ∧ b = (c.getD ⟨[], 0, 0⟩).ov ∧ Sl W 1 encI (.slice q n m) (c.getD ⟨[], 0, 0⟩).br ∧ ∀ a' n' m', (Value.slice q n m) = .slice (some a') n' m' → G < a'.block := by
 cases c with
 | none => cases h; exact ⟨rfl, rfl, rfl, .inl ⟨rfl, rfl⟩, fun a' n' m' e => by cases e⟩
 | some v =>
  obtain ⟨h1, h2, h3⟩ := h
  cases h1
  exact ⟨rfl, rfl, rfl, h2, h3⟩
section
variable {l : List It} {p : Option Addr} {cap : Nat}
set_option maxRecDepth 100000 in
set_option maxHeartbeats 8000000 in
theorem Best_any (a b c d e : Int) (w : World) (hl : Sl w 6 encIt (.slice p l.length cap) l) (hok : ∀ x ∈ l, x.ok) :
  Calls Tryz.prog 21 #[.slice p l.length cap, .agg #[.int .i64 a, .int .i64 b, .int .i64 c, .int .i64 d, .int .i64 e]] w fun e' w' => WayW (bestS l (cutI a 0 10000) (cutI c 0 10000)) w.heap.size e' w' ∧ Below w.heap.size w w' := by
 obtain ⟨n₀, hn₀⟩ : ∃ n, w.heap.size = n := ⟨_, rfl⟩
 rw [hn₀]
 have cL := hid (fun (W : World) (h : Below n₀ w W) => (Kept.of_below (hn₀ ▸ h : Below w.heap.size w W) 0).sl hl)
 have hLm := hl.shape
 obtain ⟨wd, hwd⟩ : ∃ y, cutI a 0 10000 = y := ⟨_, rfl⟩
 obtain ⟨tol, htol⟩ : ∃ y, cutI c 0 10000 = y := ⟨_, rfl⟩
 have hwb : 0 ≤ wd ∧ wd ≤ 10000 := by rw [← hwd]; exact cutI_bd (by omega)
 have cO := hid (fun (L : Nat) (W : World) => of_any p L cap a b c d e W)
 rw [hwd, htol] at cO
 rw [hwd, htol]
 clear hwd htol
 have hbn := fun h => best_none (l := l) wd tol h
 have hbs : bestS l wd tol = if 600 < l.length ∨ ¬ firstL l (-1) < l.length then ⟨[], 0, 0⟩ else match bestW l wd tol false (placesL l) with
  | some v => v
  | none => (bestW l wd tol true (placesL l)).getD ⟨[], 0, 0⟩ := rfl
 obtain ⟨BS, hBS⟩ : ∃ y, bestS l wd tol = y := ⟨_, rfl⟩
 rw [hBS] at hbn hbs ⊢
 clear hBS
 replace hbs := hid hbs
 replace hbn := hid hbn
 have cB := fun (h : l.length ≤ 600) => hid (fun (W : World) (hB : Below n₀ w W) => boxed_any (l := l) (p := p) (cap := cap) (wd := wd) (tol := tol) (-1) l.length W (cL.out W hB) (by omega) (by constructor <;> omega))
 have cS := fun (h : l.length ≤ 600) => hid (fun (al : Bool) (W : World) (hB : Below n₀ w W) => search_any (l := l) (p := p) (cap := cap) (wd := wd) (tol := tol) al W (cL.out W hB) h hok hwb)
 obtain ⟨fb, hfb⟩ : ∃ y, decide (firstL l (-1) < l.length) = y := ⟨_, rfl⟩
 rw [hfb] at cB
 obtain ⟨L, hL⟩ : ∃ y, l.length = y := ⟨_, rfl⟩
 rw [hL] at cB cS hfb ⊢
 have hbs2 := fun (h : L ≤ 600) (h2 : fb = true) => hbs.out.trans (if_neg (show ¬(600 < l.length ∨ ¬ firstL l (-1) < l.length) from fun h9 => by
  rw [hL] at h9
  rw [h2] at hfb
  have := of_decide_eq_true hfb
  omega))
 have hbn2 := hid (fun (h : 600 < L ∨ fb = false) => hbn.out (by
  rw [hL]
  rcases h with h | h
  ·exact .inl h
  ·rw [h] at hfb
   exact .inr (of_decide_eq_false hfb)))
 replace hbs2 := hid hbs2
 obtain ⟨W1, hW1⟩ : ∃ W : World, W = (w.alloc (.cells #[.int .i64 a, .int .i64 b, .int .i64 c, .int .i64 d, .int .i64 e] 26)).alloc (.cells #[.slice none 0 0, .int .i64 0, .int .i64 0] 52) := ⟨_, rfl⟩
 have z1 : (w.alloc (.cells #[.int .i64 a, .int .i64 b, .int .i64 c, .int .i64 d, .int .i64 e] 26)).heap.size = n₀ + 1 := by rw [World.size_alloc, hn₀]
 have zz : W1.heap.size = n₀ + 1 + 1 := by rw [hW1, World.size_alloc, z1]
 have g0 : W1.heap[n₀]? = some (.cells #[.int .i64 a, .int .i64 b, .int .i64 c, .int .i64 d, .int .i64 e] 26 (0, 0)) := by
  rw [hW1]
  refine (Kept.alloc 0 _ _).same _ _ ?_ (.inl rfl)
  rw [← hn₀]; exact World.alloc_heap_new w _
 have g1 : W1.heap[n₀ + 1]? = some (.cells #[.slice none 0 0, .int .i64 0, .int .i64 0] 52 (0, 0)) := by rw [hW1, ← z1]; exact World.alloc_heap_new _ _
 have B1 : Below n₀ w W1 := by rw [hW1, ← hn₀]; exact ((Below.refl _ w).alloc (Nat.le_refl _) _).alloc (by simp) _
 have s0 : W1.cell? ⟨n₀, 0, none⟩ = some (.int .i64 a) := cell_blk (i := 0) g0 rfl
 have s1 : W1.cell? ⟨n₀, 1, none⟩ = some (.int .i64 b) := cell_blk (i := 1) g0 rfl
 have s2 : W1.cell? ⟨n₀, 2, none⟩ = some (.int .i64 c) := cell_blk (i := 2) g0 rfl
 have s3 : W1.cell? ⟨n₀, 3, none⟩ = some (.int .i64 d) := cell_blk (i := 3) g0 rfl
 have s4 : W1.cell? ⟨n₀, 4, none⟩ = some (.int .i64 e) := cell_blk (i := 4) g0 rfl
 clear g0 z1 hfb hbs hbn hLm hl
 replace hL := hid hL
 go_enter Tryz.func21, Tryz.ntmps21
 go_upto_region 1 with (fail)
 rw [← hW1]
 clear hW1
 try simp only [hn₀]
 go_wp2_with (fail)
 refine (cO.out L _).mono ?_
 rintro r w2 ⟨rfl, b2⟩
 clear s0 s1 s2 s3 s4
 have B2 := B1.trans (b2.mono (by omega))
 have g2 := (Kept.of_below b2 0).same _ _ g1 (.inl rfl)
 have hz2 := b2.size
 obtain ⟨nP, hnP⟩ : ∃ n, w2.heap.size = n := ⟨_, rfl⟩
 have gP := World.alloc_heap_new w2 (.cells #[.slice none 0 0, .int .i64 0, .int .i64 0] 82)
 rw [hnP] at gP
 have B3 := B2.alloc (by omega) (.cells #[.slice none 0 0, .int .i64 0, .int .i64 0] 82)
 have g3 := (Kept.alloc 0 w2 (.cells #[.slice none 0 0, .int .i64 0, .int .i64 0] 82)).same _ _ g2 (.inl rfl)
 have hthP : (w2.alloc (.cells #[.slice none 0 0, .int .i64 0, .int .i64 0] 82)).there nP 0 (#[.slice p L cap, .int .i64 wd, .int .i64 tol] : Array Value).size := there_blk gP rfl
 have uP := (Upd.refl gP).setCells (#[.slice p L cap, .int .i64 wd, .int .i64 tol] : Array Value).toList rfl
 have gP4 := uP.here
 rw [Array.toArray_toList] at gP4
 have B4 := uP.below B3 (by omega)
 have g4 := (uP.off (n₀ + 1) (by omega)).trans g3
 unfold parV
 obtain ⟨W4, hW4⟩ : ∃ W : World, W = (w2.alloc (.cells #[.slice none 0 0, .int .i64 0, .int .i64 0] 82)).setCells nP 0 (#[.slice p L cap, .int .i64 wd, .int .i64 tol] : Array Value).toList := ⟨_, rfl⟩
 rw [← hW4] at gP4 B4 g4
 have hnP1 : n₀ + 1 < nP := by omega
 clear uP B3 g3 gP B2 g2 B1 g1 zz hz2 b2 cO
 go_upto_region 2 with (refine wpList_store_mid rfl 82 _ _ rfl nP 0 #[.slice p L cap, .int .i64 wd, .int .i64 tol] rfl rfl hthP (by kernel_rfl) (parV_one _ _ _ _ _) ?_)
 rw [← hW4]
 clear hW4 hthP
 have p0 : W4.cell? ⟨nP, 0, none⟩ = some (.slice p L cap) := cell_blk (i := 0) gP4 rfl
 have p1 : W4.cell? ⟨nP, 1, none⟩ = some (.int .i64 wd) := cell_blk (i := 1) gP4 rfl
 have p2 : W4.cell? ⟨nP, 2, none⟩ = some (.int .i64 tol) := cell_blk (i := 2) gP4 rfl
 by_cases h6 : 600 < L
 ·have h6I : (600 : Int) < (L : Int) := by omega
  have hBS := hbn2.out (.inl h6)
  have hthR : W4.there (n₀ + 1) 0 (#[.slice none 0 0, .int .i64 0, .int .i64 0] : Array Value).size := there_blk g4 rfl
  have u7 := (Upd.refl g4).setCells (#[.slice none 0 0, .int .i64 0, .int .i64 0] : Array Value).toList rfl
  have hRes := u7.here
  rw [Array.toArray_toList] at hRes
  have BR := u7.below B4 (by omega)
  replace hRes := hid hRes
  replace BR := hid BR
  replace hBS := hid hBS
  clear u7
  go_wp2_with (refine wpList_store_mid rfl 52 _ _ rfl (n₀ + 1) 0 #[.slice none 0 0, .int .i64 0, .int .i64 0] rfl rfl hthR (by kernel_rfl) (way_one _ _ _ _ _) ?_)
  exact outRow (ty := 52) rfl hRes.out rfl rfl (by kernel_rfl) (by kernel_rfl) ⟨⟨.slice none 0 0, by rw [hBS.out]; rfl, by rw [hBS.out]; exact .inl ⟨rfl, rfl⟩, fun a n m e => by cases e⟩, BR.out⟩
 ·have h6I : ¬ (600 : Int) < (L : Int) := by omega
  have h6' : L ≤ 600 := by omega
  have cB1 := cB h6'
  have cS1 := cS h6'
  unfold parV at cB1 cS1
  go_wp2_with (fail)
  refine (cB1.out _ B4).mono ?_
  rintro r w5 ⟨rfl, b5⟩
  have B5 := B4.trans (b5.mono (by have := (Array.getElem?_eq_some_iff.1 gP4).1; omega))
  have g5 := (Kept.of_below b5 0).same _ _ g4 (.inl rfl)
  have gP5 := (Kept.of_below b5 0).same _ _ gP4 (.inl rfl)
  clear p0 p1 p2 b5 B4 g4 gP4
  have p0 : w5.cell? ⟨nP, 0, none⟩ = some (.slice p L cap) := cell_blk (i := 0) gP5 rfl
  have p1 : w5.cell? ⟨nP, 1, none⟩ = some (.int .i64 wd) := cell_blk (i := 1) gP5 rfl
  have p2 : w5.cell? ⟨nP, 2, none⟩ = some (.int .i64 tol) := cell_blk (i := 2) gP5 rfl
  cases fb with
  | false =>
   have hBS := hbn2.out (.inr rfl)
   have hthR : w5.there (n₀ + 1) 0 (#[.slice none 0 0, .int .i64 0, .int .i64 0] : Array Value).size := there_blk g5 rfl
   have u7 := (Upd.refl g5).setCells (#[.slice none 0 0, .int .i64 0, .int .i64 0] : Array Value).toList rfl
   have hRes := u7.here
   rw [Array.toArray_toList] at hRes
   have BR := u7.below B5 (by omega)
   replace hRes := hid hRes
   replace BR := hid BR
   replace hBS := hid hBS
   clear u7
   go_wp2_with (refine wpList_store_mid rfl 52 _ _ rfl (n₀ + 1) 0 #[.slice none 0 0, .int .i64 0, .int .i64 0] rfl rfl hthR (by kernel_rfl) (way_one _ _ _ _ _) ?_)
   exact outRow (ty := 52) rfl hRes.out rfl rfl (by kernel_rfl) (by kernel_rfl) ⟨⟨.slice none 0 0, by rw [hBS.out]; rfl, by rw [hBS.out]; exact .inl ⟨rfl, rfl⟩, fun a n m e => by cases e⟩, BR.out⟩
  | true =>
   have hBS := hid (hbs2.out h6' rfl)
   clear hbs2 hbn2 cB1
   go_wp2_with (fail)
   refine (cS1.out false _ B5).mono ?_
   rintro r w6 ⟨hfound, b6⟩
   obtain ⟨⟨rv, ra, rb, rd⟩, G, rfl, hok1, hGl⟩ := hfound
   obtain ⟨q, qn, qm, a9, bb9, d9, e9⟩ := hok1.shape
   cases e9
   obtain ⟨w1, w2', w3, w4, w5'⟩ := hok1.way
   replace w1 := hid w1
   replace w2' := hid w2'
   replace w3 := hid w3
   rw [show enc4 (.slice q qn qm, ra, rb, rd) = [.slice q qn qm, .int .i64 ra, .int .i64 rb, .bool rd] from rfl]
   have B6 := B5.trans (b6.mono (by have := (Array.getElem?_eq_some_iff.1 gP5).1; omega))
   have g6 := (Kept.of_below b6 0).same _ _ g5 (.inl rfl)
   have gP6 := (Kept.of_below b6 0).same _ _ gP5 (.inl rfl)
   have hG6 : n₀ + 1 < G := by have := (Array.getElem?_eq_some_iff.1 gP5).1; omega
   have hz6 : n₀ + 1 < w6.heap.size := by have := (Array.getElem?_eq_some_iff.1 g6).1; omega
   have hzP6 : nP < w6.heap.size := (Array.getElem?_eq_some_iff.1 gP6).1
   clear p0 p1 p2 b6 B5 g5 gP5 hok1 hGl
   obtain ⟨nB, hnB⟩ : ∃ n, w6.heap.size = n := ⟨_, rfl⟩
   have gB := World.alloc_heap_new w6 (.cells #[.slice none 0 0, .int .i64 0, .int .i64 0, .bool false] 86)
   rw [hnB] at gB hz6 hzP6
   have kA := Kept.alloc 0 w6 (.cells #[.slice none 0 0, .int .i64 0, .int .i64 0, .bool false] 86)
   have hthB : (w6.alloc (.cells #[.slice none 0 0, .int .i64 0, .int .i64 0, .bool false] 86)).there nB 0 (#[.slice q qn qm, .int .i64 ra, .int .i64 rb, .bool rd] : Array Value).size := there_blk gB rfl
   have uB := (Upd.refl gB).setCells (#[.slice q qn qm, .int .i64 ra, .int .i64 rb, .bool rd] : Array Value).toList rfl
   have hB7 := uB.here
   rw [Array.toArray_toList] at hB7
   have B7 := uB.below (B6.alloc (by omega) (.cells #[.slice none 0 0, .int .i64 0, .int .i64 0, .bool false] 86)) (by omega)
   have g7 := (uB.off (n₀ + 1) (by omega)).trans (kA.same _ _ g6 (.inl rfl))
   have gP7 := (uB.off nP (by omega)).trans (kA.same _ _ gP6 (.inl rfl))
   have bl : Below w6.heap.size w6 ((w6.alloc (.cells #[.slice none 0 0, .int .i64 0, .int .i64 0, .bool false] 86)).setCells nB 0 (#[.slice q qn qm, .int .i64 ra, .int .i64 rb, .bool rd] : Array Value).toList) := uB.below ((Below.refl _ w6).alloc (Nat.le_refl _) (.cells #[.slice none 0 0, .int .i64 0, .int .i64 0, .bool false] 86)) (by omega)
   have s7 := (Kept.of_below bl 0).sl w4
   go_upto_region 5 with (first | refine wpList_store_mid rfl 86 _ _ rfl nB 0 #[.slice q qn qm, .int .i64 ra, .int .i64 rb, .bool rd] rfl rfl hthB (by kernel_rfl) (four_one _ _ _ _ _ _) ?_)
   obtain ⟨W7, hW7⟩ : ∃ W : World, W = (w6.alloc (.cells #[.slice none 0 0, .int .i64 0, .int .i64 0, .bool false] 86)).setCells nB 0 (#[.slice q qn qm, .int .i64 ra, .int .i64 rb, .bool rd] : Array Value).toList := ⟨_, rfl⟩
   rw [← hW7] at hB7 B7 g7 gP7 s7 ⊢
   clear hW7 hthB uB bl kA gB w4 B6 g6 gP6
   obtain ⟨c1, hc1⟩ : ∃ c, bestW l wd tol false (placesL l) = c := ⟨_, rfl⟩
   rw [hc1] at hBS w1 w2' w3 s7
   clear hc1
   have k3 : W7.cell? ⟨nB, 3, none⟩ = some (.bool rd) := cell_blk (i := 3) hB7 rfl
   cases c1 with
   | some v =>
    obtain rfl := w1.out
    have hBc : BS = v := hBS.out
    have hVd : wayV (.slice q qn qm) BS = #[.slice q qn qm, .int .i64 ra, .int .i64 rb] := by rw [hBc, w2'.out, w3.out]; rfl
    have s6 : Sl W7 1 encI (.slice q qn qm) BS.br := by rw [hBc]; exact s7
    have hne : ∀ a' n' m', (Value.slice q qn qm) = .slice (some a') n' m' → a'.block ≠ n₀ + 1 := fun a' n' m' e => by have := w5' a' n' m' e; omega
    have hlo : ∀ (a' : Addr) (n' m' : Nat), (Value.slice q qn qm) = .slice (some a') n' m' → n₀ ≤ a'.block := fun a' n' m' e => by have := w5' a' n' m' e; omega
    replace hVd := hid hVd
    clear w2' w3 s7 hBc w5' hBS
    have hr7 : W7.rangeAt nB 0 [Value.slice q qn qm, .int .i64 ra, .int .i64 rb] := fun j x hj => range_blk (cs := [Value.slice q qn qm, .int .i64 ra, .int .i64 rb, .bool true]) hB7 j x (by
     match j, hj with
     | 0, hj => exact hj
     | 1, hj => exact hj
     | 2, hj => exact hj)
    have ht7 : W7.there (n₀ + 1) 0 (#[.slice q qn qm, .int .i64 ra, .int .i64 rb] : Array Value).size := there_blk g7 rfl
    have u7 := (Upd.refl g7).setCells (#[.slice q qn qm, .int .i64 ra, .int .i64 rb] : Array Value).toList rfl
    have hRes := u7.here
    rw [Array.toArray_toList] at hRes
    have BR := u7.below B7 (by omega)
    have sR : Sl (W7.setCells (n₀ + 1) 0 (#[.slice q qn qm, .int .i64 ra, .int .i64 rb] : Array Value).toList) 1 encI (.slice q qn qm) BS.br := sl_off s6 hne
    replace hRes := hid hRes
    replace BR := hid BR
    replace sR := hid sR
    clear u7 g7 B7 s6 hB7
    go_wp2_with (first | refine wpList_load_mid rfl 52 _ rfl nB 0 rfl [Value.slice q qn qm, .int .i64 ra, .int .i64 rb] _ hr7 Tryz.underlying52 rfl (by kernel_rfl) ?_ | refine wpList_store_mid rfl 52 _ _ rfl (n₀ + 1) 0 #[.slice q qn qm, .int .i64 ra, .int .i64 rb] rfl rfl ht7 (by kernel_rfl) (way_one _ _ _ _ _) ?_)
    exact outRow (ty := 52) rfl hRes.out rfl rfl (by kernel_rfl) (by kernel_rfl) ⟨⟨.slice q qn qm, by rw [hVd.out], sR.out, hlo⟩, BR.out⟩
   | none =>
    obtain rfl := w1.out
    have hBc : BS = (bestW l wd tol true (placesL l)).getD ⟨[], 0, 0⟩ := hBS.out
    replace hBc := hid hBc
    have p0 : W7.cell? ⟨nP, 0, none⟩ = some (.slice p L cap) := cell_blk (i := 0) gP7 rfl
    have p1 : W7.cell? ⟨nP, 1, none⟩ = some (.int .i64 wd) := cell_blk (i := 1) gP7 rfl
    have p2 : W7.cell? ⟨nP, 2, none⟩ = some (.int .i64 tol) := cell_blk (i := 2) gP7 rfl
    have hnB7 : nB < W7.heap.size := (Array.getElem?_eq_some_iff.1 hB7).1
    clear w2' w3 s7 w5' hBS
    go_wp2_with (fail)
    refine (cS1.out true _ B7).mono ?_
    rintro r w8 ⟨hfound, b8⟩
    obtain ⟨⟨rv, ra2, rb2, rd2⟩, G2, rfl, hok2, hGl2⟩ := hfound
    obtain ⟨q2, qn2, qm2, a9, bb9, d9, e9⟩ := hok2.shape
    cases e9
    obtain ⟨-, x2, x3, x4, x5⟩ := hok2.way
    rw [show enc4 (.slice q2 qn2 qm2, ra2, rb2, rd2) = [.slice q2 qn2 qm2, .int .i64 ra2, .int .i64 rb2, .bool rd2] from rfl]
    have B8 := B7.trans (b8.mono (by omega))
    have g8 := (Kept.of_below b8 0).same _ _ g7 (.inl rfl)
    have hB8 := (Kept.of_below b8 0).same _ _ hB7 (.inl rfl)
    have hthB : w8.there nB 0 (#[.slice q2 qn2 qm2, .int .i64 ra2, .int .i64 rb2, .bool rd2] : Array Value).size := there_blk hB8 rfl
    have uB := (Upd.refl hB8).setCells (#[.slice q2 qn2 qm2, .int .i64 ra2, .int .i64 rb2, .bool rd2] : Array Value).toList rfl
    have hB9 := uB.here
    rw [Array.toArray_toList] at hB9
    have B9 := uB.below B8 (by omega)
    have g9 := (uB.off (n₀ + 1) (by omega)).trans g8
    have s9 : Sl (w8.setCells nB 0 (#[.slice q2 qn2 qm2, .int .i64 ra2, .int .i64 rb2, .bool rd2] : Array Value).toList) 1 encI (.slice q2 qn2 qm2) BS.br := by
     rw [hBc.out]
     exact sl_off x4 (fun a' n' m' e => by have := x5 a' n' m' e; omega)
    have hVd : wayV (.slice q2 qn2 qm2) BS = #[.slice q2 qn2 qm2, .int .i64 ra2, .int .i64 rb2] := by rw [hBc.out, x2, x3]; rfl
    have hne : ∀ a' n' m', (Value.slice q2 qn2 qm2) = .slice (some a') n' m' → a'.block ≠ n₀ + 1 := fun a' n' m' e => by have := x5 a' n' m' e; omega
    have hlo : ∀ (a' : Addr) (n' m' : Nat), (Value.slice q2 qn2 qm2) = .slice (some a') n' m' → n₀ ≤ a'.block := fun a' n' m' e => by have := x5 a' n' m' e; omega
    replace hVd := hid hVd
    clear uB B8 g8 hB8 x2 x3 x4 x5 hok2 hBc p0 p1 p2 k3 gP7 hB7 g7 B7 b8
    go_upto_region 7 with (first | refine wpList_store_mid rfl 86 _ _ rfl nB 0 #[.slice q2 qn2 qm2, .int .i64 ra2, .int .i64 rb2, .bool rd2] rfl rfl hthB (by kernel_rfl) (four_one _ _ _ _ _ _) ?_)
    obtain ⟨W9, hW9⟩ : ∃ W : World, W = w8.setCells nB 0 (#[.slice q2 qn2 qm2, .int .i64 ra2, .int .i64 rb2, .bool rd2] : Array Value).toList := ⟨_, rfl⟩
    rw [← hW9] at hB9 B9 g9 s9 ⊢
    clear hW9 hthB
    have hr7 : W9.rangeAt nB 0 [Value.slice q2 qn2 qm2, .int .i64 ra2, .int .i64 rb2] := fun j x hj => range_blk (cs := [Value.slice q2 qn2 qm2, .int .i64 ra2, .int .i64 rb2, .bool _]) hB9 j x (by
     match j, hj with
     | 0, hj => exact hj
     | 1, hj => exact hj
     | 2, hj => exact hj)
    have ht7 : W9.there (n₀ + 1) 0 (#[.slice q2 qn2 qm2, .int .i64 ra2, .int .i64 rb2] : Array Value).size := there_blk g9 rfl
    have u7 := (Upd.refl g9).setCells (#[.slice q2 qn2 qm2, .int .i64 ra2, .int .i64 rb2] : Array Value).toList rfl
    have hRes := u7.here
    rw [Array.toArray_toList] at hRes
    have BR := u7.below B9 (by omega)
    have sR : Sl (W9.setCells (n₀ + 1) 0 (#[.slice q2 qn2 qm2, .int .i64 ra2, .int .i64 rb2] : Array Value).toList) 1 encI (.slice q2 qn2 qm2) BS.br := sl_off s9 hne
    replace hRes := hid hRes
    replace BR := hid BR
    replace sR := hid sR
    clear u7 g9 B9 s9 hB9
    go_wp2_with (first | refine wpList_load_mid rfl 52 _ rfl nB 0 rfl [Value.slice q2 qn2 qm2, .int .i64 ra2, .int .i64 rb2] _ hr7 Tryz.underlying52 rfl (by kernel_rfl) ?_ | refine wpList_store_mid rfl 52 _ _ rfl (n₀ + 1) 0 #[.slice q2 qn2 qm2, .int .i64 ra2, .int .i64 rb2] rfl rfl ht7 (by kernel_rfl) (way_one _ _ _ _ _) ?_)
    exact outRow (ty := 52) rfl hRes.out rfl rfl (by kernel_rfl) (by kernel_rfl) ⟨⟨.slice q2 qn2 qm2, by rw [hVd.out], sR.out, hlo⟩, BR.out⟩
end
end Go.Proofs.YtempicociampoaaGreatDoor
