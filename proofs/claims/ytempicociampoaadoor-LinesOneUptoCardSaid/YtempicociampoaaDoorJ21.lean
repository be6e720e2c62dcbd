/- The walk of chapter 19's wakes. Plain laws of lines: items that fit into one line. Plain laws of lines: a heading's words in one line. Plain laws of markup: lines, words, parts. -/
import Derived.Test.YtempicociampoaaDoorJ20
import Derived.Test.YtempicociampoaaDoorJ3
namespace Go.Proofs.YtempicociampoaaDoor
open Go.RowKit Go.Shelf Go.Lib

theorem LnsAt.kept {B : Nat} {W W' : World} {v : Value} {L : List Ln} (h : LnsAt W v L) (hk : Kept B W W') : LnsAt W' v L := by
  obtain ⟨P, h1, h2, h3⟩ := h
  exact ⟨P, hk.sl h1, h2, fun y hy => (h3 y hy).kept hk⟩
/-- the text of lines as they lie -/
theorem LTextL_any (v : Value) (L : List Ln) (w : World) (h : LnsAt w v L) (hb : ∀ x ∈ L, pcB x.ps) (hn : (linesT tw (L.map Ln.ps)).length ≤ 1000000) (hT : Tabs w) :
    Calls Tryd.prog 11 #[v] w fun e w' => e = .returned (.string ⟨(linesT tw (L.map Ln.ps)).toArray⟩) ∧ Below w.heap.size w w' := by
  obtain ⟨P, h1, h2, h3⟩ := h
  have e : L.map Ln.ps = P.map fun x => x.2.ps := by rw [← h2, List.map_map]; rfl
  rw [e] at hn ⊢
  exact LText_any v P w h1 (fun x hx => (h3 x hx).1) (fun x hx => hb _ (by rw [← h2]; exact List.mem_map_of_mem hx)) hn hT
/-- a line's own cells -/
theorem LnsAt.open {W : World} {v : Value} {L : List Ln} (h : LnsAt W v L) (hne : L ≠ []) : ∃ b o c, v = .slice (some ⟨b, o, none⟩) L.length c ∧ ∀ (i : Nat) (x : Ln), L[i]? = some x →
    W.cell? ⟨b, o + i * 5, none⟩ = some (.int .i64 x.kind) ∧ W.cell? ⟨b, o + i * 5 + 1, none⟩ = some (.bool x.first) ∧ W.cell? ⟨b, o + i * 5 + 2, none⟩ = some (.bool x.last) ∧ W.cell? ⟨b, o + i * 5 + 3, none⟩ = some (.bool x.over) ∧ ∃ p m, W.cell? ⟨b, o + i * 5 + 4, none⟩ = some (.slice p x.ps.length m) ∧ PcAt W (.slice p x.ps.length m) x.ps := by
  obtain ⟨P, h1, h2, h3⟩ := h
  subst h2
  obtain ⟨b, o, c, e, -, -, h9⟩ := h1.open (by rintro rfl; exact hne rfl)
  refine ⟨b, o, c, by rw [e, List.length_map], fun i x hx => ?_⟩
  rw [List.getElem?_map] at hx
  obtain ⟨y, hy, rfl⟩ := Option.map_eq_some_iff.1 hx
  have hr := h9 i y hy
  have hp := h3 y (List.mem_of_getElem? hy)
  obtain ⟨p, m, e2, -⟩ := hp.1.shape
  rw [e2] at hp
  refine ⟨hr 0 _ rfl, hr 1 _ rfl, hr 2 _ rfl, hr 3 _ rfl, p, m, ?_, hp⟩
  have := hr 4 _ rfl
  rw [this, ← e2]
theorem l19 : ∃ x0 x1 : Ln, ofL 1 [naB, naB] 40 200 50 0 = [x0, x1] ∧ x0.first = true ∧ x0.last = false ∧ x1.last = true := by
  have hbr : (bestS (itemsOf 1 0 50 [naB, naB]) (cutI 40 0 10000) (cutI 200 0 10000)).br.length = 2 := by rw [its19a]; exact br19a
  have h : ofL 1 [naB, naB] 40 200 50 0 = [lineAt (itemsOf 1 0 50 [naB, naB]) 40 (cutI 40 0 10000) (cutI 200 0 10000) 1 (bestS (itemsOf 1 0 50 [naB, naB]) (cutI 40 0 10000) (cutI 200 0 10000)).br 0, lineAt (itemsOf 1 0 50 [naB, naB]) 40 (cutI 40 0 10000) (cutI 200 0 10000) 1 (bestS (itemsOf 1 0 50 [naB, naB]) (cutI 40 0 10000) (cutI 200 0 10000)).br 1] := by
    rw [ofL_lines (by decide) (by simp), linesL_eq, hbr]; rfl
  refine ⟨_, _, h, rfl, ?_, ?_⟩ <;> (unfold lineAt; rw [hbr]; rfl)
theorem p19 : ∃ x0 : Ln, ofL 3 [⟨#[97]⟩] 40 200 50 0 = [x0] ∧ x0.first = true ∧ x0.last = true := by
  have hbr : (bestS (itemsOf 3 0 50 [⟨#[97]⟩]) (cutI 40 0 10000) (cutI 200 0 10000)).br.length = 1 := by rw [its19b]; exact br19b
  have h : ofL 3 [⟨#[97]⟩] 40 200 50 0 = [lineAt (itemsOf 3 0 50 [⟨#[97]⟩]) 40 (cutI 40 0 10000) (cutI 200 0 10000) 3 (bestS (itemsOf 3 0 50 [⟨#[97]⟩]) (cutI 40 0 10000) (cutI 200 0 10000)).br 0] := by
    rw [ofL_lines (by decide) (by simp), linesL_eq, hbr]; rfl
  refine ⟨_, h, rfl, ?_⟩
  unfold lineAt; rw [hbr]; rfl
theorem na_ok : okW naB := ⟨by decide, by decide⟩
theorem a_ok : okW ⟨#[97]⟩ := ⟨by decide, by decide⟩
theorem t19a : linesT tw ((ofL 1 [naB, naB] 40 200 50 0).map Ln.ps) = [110, 97, 116, 105, 111, 110, 32, 110, 97, 116, 105, 111, 110] := by
  rw [ofL_text (by decide) (fun s hs => by
    simp only [List.mem_cons, List.not_mem_nil, or_false, or_self] at hs
    subst hs; exact na_ok) (by simp) (by rw [its19a]; decide)]; rfl
theorem t19b : linesT tw ((ofL 3 [⟨#[97]⟩] 40 200 50 0).map Ln.ps) = [42, 32, 97] := by
  rw [ofL_text (by decide) (fun s hs => by obtain rfl := List.mem_singleton.1 hs; exact a_ok) (by simp) (by rw [its19b]; decide)]; rfl
set_option maxRecDepth 100000 in
set_option maxHeartbeats 4000000 in
theorem wakes19 (w : World) (hT : Tabs w) (hR : Asp w) : Calls Tryd.prog 6 #[] w fun e w' => e = .returned (.bool true) ∧ Below w.heap.size w w' := by
  have hw2 : ∀ s ∈ [naB, naB], s.size ≤ 1000 := by decide
  have hB0 := (Below.refl w.heap.size w).alloc (Nat.le_refl _) (.cells #[.int .i64 40, .int .i64 9, .int .i64 200, .int .i64 50, .int .i64 0] 24)
  have gS := World.alloc_heap_new w (.cells #[.int .i64 40, .int .i64 9, .int .i64 200, .int .i64 50, .int .i64 0] 24)
  obtain ⟨n₀, hn₀⟩ : ∃ n, w.heap.size = n := ⟨_, rfl⟩
  obtain ⟨W1, hW1⟩ : ∃ W : World, W = w.alloc (.cells #[.int .i64 40, .int .i64 9, .int .i64 200, .int .i64 50, .int .i64 0] 24) := ⟨_, rfl⟩
  rw [← hW1, hn₀] at hB0 gS
  rw [hn₀]
  have s0 : ∀ W, Below W1.heap.size W1 W → W.cell? ⟨n₀, 0, none⟩ = some (.int .i64 40) := fun W h => cell_blk (i := 0) ((Kept.of_below h 0).same _ _ gS (.inl rfl)) rfl
  have s1 : ∀ W, Below W1.heap.size W1 W → W.cell? ⟨n₀, 1, none⟩ = some (.int .i64 9) := fun W h => cell_blk (i := 1) ((Kept.of_below h 0).same _ _ gS (.inl rfl)) rfl
  have s2 : ∀ W, Below W1.heap.size W1 W → W.cell? ⟨n₀, 2, none⟩ = some (.int .i64 200) := fun W h => cell_blk (i := 2) ((Kept.of_below h 0).same _ _ gS (.inl rfl)) rfl
  have s3 : ∀ W, Below W1.heap.size W1 W → W.cell? ⟨n₀, 3, none⟩ = some (.int .i64 50) := fun W h => cell_blk (i := 3) ((Kept.of_below h 0).same _ _ gS (.inl rfl)) rfl
  have s4 : ∀ W, Below W1.heap.size W1 W → W.cell? ⟨n₀, 4, none⟩ = some (.int .i64 0) := fun W h => cell_blk (i := 4) ((Kept.of_below h 0).same _ _ gS (.inl rfl)) rfl
  replace s0 := hid s0
  replace s1 := hid s1
  replace s2 := hid s2
  replace s3 := hid s3
  replace s4 := hid s4
  have hz1 : n₀ ≤ W1.heap.size := by have := hB0.size; omega
  have hTW := hid (fun W (h : Below W1.heap.size W1 W) => hT.below (hn₀ ▸ hB0.trans (h.mono hz1)))
  have hRW := hid (fun W (h : Below W1.heap.size W1 W) => hR.below (hn₀ ▸ hB0.trans (h.mono hz1)))
  have b1 := (Below.refl W1.heap.size W1).alloc (Nat.le_refl _) (.cells #[.string ⟨#[110, 97, 116, 105, 111, 110]⟩, .string ⟨#[110, 97, 116, 105, 111, 110]⟩] 9)
  have c1 := LOf_any 1 _ [naB, naB] 40 9 200 50 0 _ (by decide) hw2 (sl_texts W1 [naB, naB] (by decide)) (by constructor <;> decide) (by constructor <;> decide) (by constructor <;> decide) (hTW.out _ b1) (hRW.out _ b1)
  replace c1 := hid c1
  have t0 := s0.out _ b1
  have t1 := s1.out _ b1
  have t2 := s2.out _ b1
  have t3 := s3.out _ b1
  have t4 := s4.out _ b1
  clear gS
  go_enter Tryd.func6, Tryd.ntmps6
  go_upto_region 2 with (fail)
  rw [← hW1]
  clear hW1
  try simp only [hn₀]
  go_upto_region 3 with (fail)
  refine c1.out.mono ?_
  rintro e w2 ⟨v2, rfl, L2, b2⟩
  have B2 := b1.trans (b2.mono b1.size)
  clear t0 t1 t2 t3 t4 c1 b1 b2
  have t0 := s0.out _ B2
  have t1 := s1.out _ B2
  have t2 := s2.out _ B2
  have t3 := s3.out _ B2
  have t4 := s4.out _ B2
  have c2 := LOf_any 4 (.slice none 0 0) [] 40 9 200 50 0 w2 (by decide) (by simp) (.inl ⟨rfl, rfl⟩) (by constructor <;> decide) (by constructor <;> decide) (by constructor <;> decide) (hTW.out _ B2) (hRW.out _ B2)
  rw [show ofL 4 [] 40 200 50 0 = [⟨4, false, false, false, []⟩] from if_pos rfl] at c2
  replace c2 := hid c2
  replace L2 := hid L2
  go_upto_region 4 with (fail)
  refine c2.out.mono ?_
  rintro e w3 ⟨v3, rfl, L3, b3⟩
  have B3 := B2.trans (b3.mono B2.size)
  have L2' := L2.out.kept (Kept.of_below b3 0)
  have B4 := B3.alloc B3.size (.cells #[.string ⟨#[97]⟩] 9)
  have k4 := Kept.alloc 0 w3 (.cells #[.string ⟨#[97]⟩] 9)
  have hz4 := B4.size
  clear t0 t1 t2 t3 t4 c2 B2 b3 L2
  have t0 := s0.out _ B4
  have t1 := s1.out _ B4
  have t2 := s2.out _ B4
  have t3 := s3.out _ B4
  have t4 := s4.out _ B4
  have c3 := LOf_any 3 _ [⟨#[97]⟩] 40 9 200 50 0 _ (by decide) (by simp; decide) (sl_texts w3 [⟨#[97]⟩] (by decide)) (by constructor <;> decide) (by constructor <;> decide) (by constructor <;> decide) (hTW.out _ B4) (hRW.out _ B4)
  replace c3 := hid c3
  replace L2' := hid (L2'.kept k4)
  replace L3 := hid (L3.kept k4)
  clear k4
  go_upto_region 5 with (fail)
  refine c3.out.mono ?_
  rintro e w5 ⟨v4, rfl, L4, b5⟩
  have B5 := B4.trans (b5.mono hz4)
  have l2 := L2'.out.kept (Kept.of_below b5 0)
  have l3 := hid (L3.out.kept (Kept.of_below b5 0))
  replace L4 := hid L4
  have hin2 : ∀ x ∈ ofL 1 [naB, naB] 40 200 50 0, pcB x.ps := ofL_in hw2
  have hin4 : ∀ x ∈ ofL 3 [⟨#[97]⟩] 40 200 50 0, pcB x.ps := ofL_in (by simp; decide)
  have cT := hid (LTextL_any v2 _ w5 l2 hin2 (by rw [t19a]; decide) (hTW.out _ B5))
  rw [t19a] at cT
  have cU := hid (fun W (h : Below w5.heap.size w5 W) => LTextL_any v4 _ W (L4.out.kept (Kept.of_below h 0)) hin4 (by rw [t19b]; decide) (hTW.out _ (B5.trans (h.mono B5.size))))
  rw [t19b] at cU
  obtain ⟨x0, x1, e2, f1, f2, f3⟩ := l19
  rw [e2] at l2
  obtain ⟨b, o, c, rfl, hc⟩ := l2.open (by simp)
  obtain ⟨-, q1, q2, -, -⟩ := hc 0 x0 rfl
  obtain ⟨-, -, q3, -, -⟩ := hc 1 x1 rfl
  rw [f1] at q1
  rw [f2] at q2
  rw [f3] at q3
  simp only [Nat.zero_mul, Nat.add_zero, Nat.one_mul] at q1 q2 q3
  have hl2 : ([x0, x1] : List Ln).length = 2 := rfl
  rw [hl2] at cT ⊢
  clear hc l2 f1 f2 f3 e2 L2' L3 t0 t1 t2 t3 t4 s0 s1 s2 s3 s4 c3 hin2 hin4 hl2 B4 B3 b5 hz4 hw2
  go_wp2_with (fail)
  refine cT.out.mono ?_
  rintro e w6 ⟨rfl, b6⟩
  have B6 := B5.trans (b6.mono B5.size)
  have l36 := l3.out.kept (Kept.of_below b6 0)
  have l46 := L4.out.kept (Kept.of_below b6 0)
  have cV := hid (cU.out _ b6)
  obtain ⟨y0, e3, f1, f2⟩ := p19
  rw [e3] at l46
  obtain ⟨b', o', c', rfl, hc⟩ := l46.open (by simp)
  obtain ⟨be, oe, ce, rfl, he⟩ := l36.open (by simp)
  obtain ⟨-, r1, r2, -, -⟩ := hc 0 y0 rfl
  obtain ⟨r3, -, -, -, -⟩ := he 0 _ rfl
  rw [f1] at r1
  rw [f2] at r2
  simp only [Nat.zero_mul, Nat.add_zero] at r1 r2 r3
  rw [show ([y0] : List Ln).length = 1 from rfl] at cV ⊢
  rw [show ([⟨4, false, false, false, []⟩] : List Ln).length = 1 from rfl]
  clear hc he l36 l46 f1 f2 e3 q1 q2 q3 cT cU l3 L4 b6
  go_wp2_with (fail)
  refine cV.out.mono ?_
  rintro e w7 ⟨rfl, b7⟩
  have BZ := hB0.trans ((B6.trans (b7.mono B6.size)).mono hz1)
  clear r1 r2 r3 cV
  go_wp2_with (fail)
  go_ret
  exact ⟨rfl, BZ⟩
end Go.Proofs.YtempicociampoaaDoor
namespace Go.Proofs.YtempicociampoaaDoor
open Go.RowKit

theorem one_li {l : List It} {wd tol : Int} (ht : 0 ≤ tol) (hw : 0 ≤ wd - (lineSm l (firstL l (-1)) l.length).w) : (liS l wd tol (-1) l.length).may = true ∧ (liS l wd tol (-1) l.length).dem = 100 ∧ (liS l wd tol (-1) l.length).over = false := by
  have hb : lbad l wd (-1) l.length = (0, true) := by unfold lbad; rw [if_pos ⟨rfl, hw⟩]
  have hc : costAt l l.length = 0 := by unfold costAt; rw [List.getElem?_eq_none (Nat.le_refl _)]
  have hp : penAt l (-1) = false := by unfold penAt; rw [decide_eq_false (by omega)]; rfl
  unfold liS
  rw [hb, hc, hp]
  refine ⟨?_, ?_, rfl⟩
  · simpa using ht
  · rfl
theorem one_best {l : List It} {wd tol : Int} (h6 : l.length ≤ 600) (hb : firstL l (-1) < l.length) (ht : 0 ≤ tol) (hw : 0 ≤ wd - (lineSm l (firstL l (-1)) l.length).w) : bestS l wd tol = ⟨[(l.length : Int)], 100, 0⟩ := by
  obtain ⟨k, hk⟩ := places_two l
  obtain ⟨m1, m2, -⟩ := one_li ht hw
  have e : bestW l wd tol false (placesL l) = some ⟨[(l.length : Int)], 100, 0⟩ := by
    rw [best_last l wd tol false _ hk, places_end l hk]
    exact fold_one (found_zero l wd tol false _ k) (fun i v hv => found_ge l wd tol _ k i v hv) (by rw [places_zero]; exact hb) (by rw [places_zero]; exact m1) (by rw [places_zero]; exact m2) k
  unfold bestS
  rw [if_neg (by simp [hb]; omega), e]
section
variable {tw : ByteArray → Int}
/-- pieces that are not moved stand where the items' widths say -/
def atW : Int → List It → List (Int × ByteArray)
  | _, [] => []
  | a, x :: r => if x.kind = 1 ∧ x.text.size ≠ 0 then (a, x.text) :: atW (a + plain x.w) r else atW (if x.kind = 3 then a else a + plain x.w) r
theorem pcs_still {s : Sm} : ∀ (m : List It) (a : Sm), pcs 0 s a m = atW a.w m
  | [], _ => rfl
  | x :: m, a => by
    have hm : moved 0 s a = 0 := by unfold moved; rw [if_pos (Int.le_refl _)]; unfold spread; split <;> simp
    rw [pcs, atW, pcs_still m]
    split
    · rename_i h
      rw [hm]
      unfold Sm.step
      rw [if_neg (by omega)]; simp
    · rfl
/-- the one line of items that fit -/
theorem one_line {l : List It} {width wd tol kind : Int} (h6 : l.length ≤ 600) (hb : firstL l (-1) < l.length) (ht : 0 ≤ tol) (hw : 0 ≤ wd - (lineSm l (firstL l (-1)) l.length).w) (hwd : plain width = wd) :
    linesL l width wd tol kind (-1) true (bestS l wd tol).br = [⟨kind, true, true, false, atW 0 (mid l (firstL l (-1)) l.length)⟩] := by
  rw [one_best h6 hb ht hw]
  have hup : upto (l.length : Int) l.length = l.length := by unfold upto; omega
  have hs : setL l (-1) (l.length : Int) width true = atW 0 (mid l (firstL l (-1)) l.length) := by
    unfold setL
    rw [hup, if_pos hb]
    have hn : needOf width true (lineSm l (firstL l (-1)) l.length) = 0 := by unfold needOf; rw [if_pos rfl, hwd]; omega
    rw [hn]
    unfold allPcs
    rw [if_neg (by rw [isPen_end (Nat.le_refl _)]; simp), List.append_nil]
    exact pcs_still _ _
  show [(⟨kind, true, true, (liS l wd tol (-1) (l.length : Int).toNat).over, setL l (-1) (l.length : Int) width true⟩ : Ln)] = _
  rw [hs, show (l.length : Int).toNat = l.length by omega, (one_li ht hw).2.2]
end
end Go.Proofs.YtempicociampoaaDoor
namespace Go.Proofs.YtempicociampoaaDoor
open Go.RowKit

theorem foldl_w : ∀ (m : List It) (a b : Sm), (m.foldl Sm.step a).w - a.w = (m.foldl Sm.step b).w - b.w
  | [], _, _ => by simp
  | x :: m, a, b => by
    have := foldl_w m (a.step x) (b.step x)
    have h : ∀ s : Sm, (s.step x).w = s.w + if x.kind = 3 then 0 else plain x.w := fun s => by
      show (if x.kind = 3 then s.w else s.w + plain x.w) = _
      split <;> omega
    have h1 := h a
    have h2 := h b
    rw [List.foldl_cons, List.foldl_cons]
    omega
theorem smOf_app (l m : List It) : (smOf (l ++ m)).w = (smOf l).w + (smOf m).w := by
  have := foldl_w m (smOf l) ⟨0, 0, 0⟩
  unfold smOf at this ⊢
  rw [List.foldl_append]
  dsimp only at this
  omega
theorem atW_app : ∀ (l m : List It) (a : Int), atW a (l ++ m) = atW a l ++ atW (a + (smOf l).w) m
  | [], m, a => by
    have : (smOf ([] : List It)).w = 0 := rfl
    rw [this, Int.add_zero]; rfl
  | x :: l, m, a => by
    have h1 : (smOf (x :: l)).w = (if x.kind = 3 then 0 else plain x.w) + (smOf l).w := by
      have := foldl_w l (Sm.step ⟨0, 0, 0⟩ x) ⟨0, 0, 0⟩
      have h : (Sm.step ⟨0, 0, 0⟩ x).w = if x.kind = 3 then 0 else plain x.w := by
        show (if x.kind = 3 then (0 : Int) else 0 + plain x.w) = _
        split <;> omega
      unfold smOf
      rw [List.foldl_cons]
      dsimp only at this
      omega
    rw [List.cons_append, atW, atW]
    split
    · rename_i hx
      rw [atW_app l m, h1, if_neg (by omega), List.cons_append, show a + plain x.w + (smOf l).w = a + (plain x.w + (smOf l).w) by omega]
    · rw [atW_app l m, h1]
      split
      · rw [Int.zero_add]
      · rw [show a + plain x.w + (smOf l).w = a + (plain x.w + (smOf l).w) by omega]
/-- where word i of a heading stands -/
noncomputable def posW (ws : List ByteArray) : Nat → Int
  | 0 => 0
  | i + 1 => posW ws i + tm (ws.getD i eb0) + 4
theorem head_items (ind c : Int) (ws : List ByteArray) (hw : ∀ s ∈ ws, okW s) : ∀ k, k ≤ ws.length →
    ((smOf (itemsTo 2 ind c ws k)).w = if k = 0 then 0 else posW ws k - 4) ∧ atW 0 (itemsTo 2 ind c ws k) = (List.range k).map (fun i => (posW ws i, ws.getD i eb0)) := by
  intro k
  induction k with
  | zero => intro _; exact ⟨rfl, rfl⟩
  | succ k ih =>
    intro hk
    obtain ⟨i1, i2⟩ := ih (by omega)
    have hs : okW (ws.getD k eb0) := by
      rw [List.getD_eq_getElem?_getD, List.getElem?_eq_getElem hk]
      exact hw _ (List.getElem_mem _)
    have hb := tm_bd (ws.getD k eb0)
    have hp : plain (tm (ws.getD k eb0)) = tm (ws.getD k eb0) := plain_eq hb.1 (by have := hs.2; omega)
    have hbx : (smOf [boxT (ws.getD k eb0)]).w = tm (ws.getD k eb0) := by
      show (if (1 : Int) = 3 then (0 : Int) else 0 + plain (tm (ws.getD k eb0))) = _
      rw [if_neg (by omega), hp]; omega
    have hat : ∀ a, atW a [boxT (ws.getD k eb0)] = [(a, ws.getD k eb0)] := fun a => by
      rw [atW, if_pos ⟨rfl, hs.1⟩]; rfl
    have hsp : (smOf [spaceT]).w = 4 := by decide
    have hsa : ∀ a, atW a [spaceT] = [] := fun a => by
      rw [atW, if_neg (fun h => absurd h.1 (by decide))]; rfl
    rw [itemsTo, if_pos rfl]
    by_cases h0 : k = 0
    · subst h0
      rw [if_neg (by omega), List.append_nil]
      refine ⟨?_, ?_⟩
      · rw [smOf_app, i1, hbx, if_pos rfl, if_neg (by omega)]
        show 0 + tm (ws.getD 0 eb0) = 0 + tm (ws.getD 0 eb0) + 4 - 4
        omega
      · rw [atW_app, i2, i1, hat]; rfl
    · rw [if_pos (by omega)]
      rw [if_neg h0] at i1
      have e : posW ws (k + 1) = posW ws k + tm (ws.getD k eb0) + 4 := rfl
      refine ⟨?_, ?_⟩
      · rw [smOf_app, smOf_app, i1, hsp, hbx, if_neg (by omega), e]; omega
      · rw [atW_app, atW_app, i2, hsa, List.append_nil, smOf_app, i1, hsp, hat, List.range_succ, List.map_append]
        simp
end Go.Proofs.YtempicociampoaaDoor
namespace Go.Proofs.YtempicociampoaaDoor
open Go.RowKit Go.Lib

abbrev L8 := List UInt8
abbrev P8 := Int × List L8

/-- cut between bytes of a kind -/
def cutB (c : UInt8) : L8 → List L8
  | [] => [[]]
  | x :: r => if x = c then [] :: cutB c r else (x :: (cutB c r).headD []) :: (cutB c r).tail
theorem cutB_ne (c : UInt8) (l : L8) : cutB c l ≠ [] := by
  cases l with
  | nil => simp [cutB]
  | cons x r => unfold cutB; split <;> simp
theorem cutB_cons (c : UInt8) (l : L8) : ∃ h t, cutB c l = h :: t := by
  cases h : cutB c l with
  | nil => exact absurd h (cutB_ne c l)
  | cons x r => exact ⟨x, r, rfl⟩
theorem cutB_none {c : UInt8} : ∀ {l : L8}, c ∉ l → cutB c l = [l] := by
  intro l
  induction l with
  | nil => intro _; rfl
  | cons x r ih =>
    intro h
    simp only [List.mem_cons, not_or] at h
    unfold cutB
    rw [if_neg (fun e => h.1 e.symm), ih h.2]; rfl
theorem cutB_app (c : UInt8) (a b : L8) : cutB c (a ++ c :: b) = cutB c a ++ cutB c b := by
  induction a with
  | nil => simp [cutB]
  | cons x r ih =>
    obtain ⟨h, t, e⟩ := cutB_cons c r
    rw [List.cons_append, cutB, ih, cutB, e]
    split <;> simp
theorem cutB_hit {c : UInt8} {a : L8} (b : L8) (h : c ∉ a) : cutB c (a ++ c :: b) = a :: cutB c b := by
  rw [cutB_app, cutB_none h]; rfl
theorem cutB_mem {c : UInt8} : ∀ {l : L8} {w : L8}, w ∈ cutB c l → c ∉ w := by
  intro l
  induction l with
  | nil => intro w h; simp [cutB] at h; subst h; simp
  | cons x r ih =>
    intro w h
    obtain ⟨g, t, e⟩ := cutB_cons c r
    rw [cutB, e] at h
    split at h
    · rcases List.mem_cons.1 h with rfl | h
      · simp
      · exact ih (by rw [e]; exact h)
    · rename_i hx
      rcases List.mem_cons.1 h with rfl | h
      · simp only [List.headD_cons, List.mem_cons, not_or]
        exact ⟨fun e => hx e.symm, ih (by rw [e]; exact List.mem_cons_self)⟩
      · exact ih (by rw [e]; exact List.mem_cons_of_mem _ h)
theorem cutB_len (c : UInt8) (l : L8) : (cutB c l).length ≤ l.length + 1 := by
  induction l with
  | nil => simp [cutB]
  | cons x r ih =>
    obtain ⟨g, t, e⟩ := cutB_cons c r
    rw [cutB, e]; rw [e] at ih
    split <;> simp at ih ⊢ <;> omega

/-- a line's words -/
def wordsL (l : L8) : List L8 := (cutB 32 l).filter fun w => !w.isEmpty
theorem wordsL_one {w : L8} (h : w ≠ []) (h2 : (32 : UInt8) ∉ w) : wordsL w = [w] := by
  unfold wordsL
  rw [cutB_none h2]
  cases w with
  | nil => exact absurd rfl h
  | cons x r => rfl
theorem wordsL_mem {l w : L8} (h : w ∈ wordsL l) : w ≠ [] ∧ (32 : UInt8) ∉ w := by
  unfold wordsL at h
  obtain ⟨h1, h2⟩ := List.mem_filter.1 h
  exact ⟨by rintro rfl; simp at h2, cutB_mem h1⟩
end Go.Proofs.YtempicociampoaaDoor
