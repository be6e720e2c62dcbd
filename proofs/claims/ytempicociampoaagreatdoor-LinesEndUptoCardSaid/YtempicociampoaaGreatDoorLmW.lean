/- The walks of slices.Contains, breaks.walk and breaks.May, of a best way (printed by gen_lmw.py). -/
import Derived.Test.YtempicociampoaaGreatDoorJ0
import Derived.Test.YtempicociampoaaGreatDoorLmE
import Derived.Test.YtempicociampoaaGreatDoorLnJ
namespace Go.Proofs.YtempicociampoaaGreatDoor
open Go.RowKit Go.Shelf Go.Lib

set_option maxRecDepth 100000 in
set_option maxHeartbeats 2000000 in
theorem IndexI_any (v : Value) (l : List Int) (x : Int) (w : World) (hl : Sl w 1 encI v l) :
  Calls Tryz.prog 95 #[v, .int .i64 x] w fun e w' => (∃ r : Int, e = .returned (.int .i64 r) ∧ decide (0 ≤ r) = decide (x ∈ l)) ∧ w' = w := by
 obtain ⟨p, c, rfl, hmx⟩ := hl.shape
 unfold maxLen at hmx
 replace hl := hid hl
 go_enter Tryz.func95, Tryz.ntmps95
 go_wp2_with (fail)
 go_loopw [8] (fun iv wr => ∃ k : Nat, k ≤ l.length ∧ iv = .int .i64 (k : Int) ∧ (∀ y ∈ l.take k, y ≠ x) ∧ wr = w) (fun iv _ => l.length - (RowKit.intOf iv).toNat)
 case atStart => exact ⟨0, Nat.zero_le _, rfl, fun y h => by simp at h, rfl⟩
 case round =>
  obtain ⟨k, hk, rfl, hno, rfl⟩ := hrel
  by_cases hkl : k < l.length
  ·have hkI : (k : Int) < (l.length : Int) := by omega
   have hne : l ≠ [] := by intro h; rw [h] at hkl; simp at hkl
   obtain ⟨b, o, cap', he, h1, h2, h3⟩ := hl.out.open hne
   cases he
   have hc := rangeAt_one (h3 k l[k] (List.getElem?_eq_getElem hkl))
   simp only [Nat.mul_one] at hc
   have htk : l.take (k + 1) = l.take k ++ [l[k]] := List.take_succ_eq_append_getElem hkl
   have hmem : l[k] ∈ l := List.getElem_mem _
   generalize l[k] = y at *
   by_cases hxy : x = y
   ·have hb : (x == y) = true := by simpa using hxy
    have hin : decide (0 ≤ (k : Int)) = decide (x ∈ l) := by rw [decide_eq_true (by omega), decide_eq_true (hxy ▸ hmem)]
    replace hin := hid hin
    clear h3 htk hmem hxy hno
    go_wp2_with (fail)
    go_ret
    exact ⟨⟨_, rfl, hin.out⟩, rfl⟩
   ·have hb : (x == y) = false := by simpa using hxy
    have hno2 := hid (show ∀ z ∈ l.take (k + 1), z ≠ x from fun z hz => by
     rw [htk] at hz
     rcases List.mem_append.1 hz with h | h
     ·exact hno z h
     ·obtain rfl := List.mem_singleton.1 h; exact fun e => hxy e.symm)
    have hzi : IntKind.i64.wrap ((k : Int) + 1) = (k : Int) + 1 := by rw [IntKind.wrap_i64]; omega
    clear h3 htk hmem hxy hno
    go_wp2_with (fail)
    exact ⟨⟨k + 1, by omega, by go_num, hno2.out, trivial⟩, by simp [RowKit.intOf]; omega⟩
  ·obtain rfl : k = l.length := by omega
   rw [List.take_length] at hno
   have hin : decide (0 ≤ (-1 : Int)) = decide (x ∈ l) := by rw [decide_eq_false (by omega), decide_eq_false (fun h => hno x h rfl)]
   replace hin := hid hin
   clear hno
   go_wp2_with (fail)
   go_ret
   exact ⟨⟨_, rfl, hin.out⟩, rfl⟩
set_option maxRecDepth 100000 in
set_option maxHeartbeats 2000000 in
theorem ContainsI_any (v : Value) (l : List Int) (x : Int) (w : World) (hl : Sl w 1 encI v l) :
  Calls Tryz.prog 71 #[v, .int .i64 x] w fun e w' => e = .returned (.bool (decide (x ∈ l))) ∧ w' = w := by
 have c1 := hid (IndexI_any v l x w hl)
 obtain ⟨d, hd⟩ : ∃ d, decide (x ∈ l) = d := ⟨_, rfl⟩
 rw [hd] at c1 ⊢
 obtain ⟨p, c, rfl, -⟩ := hl.shape
 clear hl hd
 go_enter Tryz.func71, Tryz.ntmps71
 go_wp2_with (fail)
 refine c1.out.mono ?_
 rintro e w' ⟨⟨r, rfl, hr⟩, rfl⟩
 go_wp2_with (fail)
 go_ret
 exact ⟨by rw [← hr]; rfl, rfl⟩
theorem mayS_snoc (l : List It) (wd tol : Int) (t : Int) : ∀ (br : List Int) (n : Int), mayS l wd tol n (br ++ [t]) = (mayS l wd tol n br && (liS l wd tol (lastI n br) t.toNat).may)
 | [], n => by simp [mayS, lastI]
 | b :: r, n => by rw [List.cons_append, mayS, mayS, mayS_snoc l wd tol t r b, Bool.and_assoc]; rfl
/-- a step of a way -/
theorem walk_step {l : List It} {wd tol : Int} {all : Bool} {br : List Int} (hb : Leg l wd tol all (-1) br) (hm : ∀ b ∈ br, b ∈ placesL l) {k : Nat} (hk : k < br.length) :
  ∃ t : Nat, br[k]? = some (t : Int) ∧ t ≤ l.length ∧ lastI (-1) (br.take k) < (t : Int) ∧ -1 ≤ lastI (-1) (br.take k) ∧ (t : Int) ∈ brk l ∧ firstL l (lastI (-1) (br.take k)) < t ∧ lastI (-1) (br.take (k + 1)) = t ∧
   mayS l wd tol (-1) (br.take (k + 1)) = (mayS l wd tol (-1) (br.take k) && (liS l wd tol (lastI (-1) (br.take k)) t).may) := by
 obtain ⟨t, ht, t1, -, t3⟩ := way_brk hb hm hk
 have hg : br[k]? = some (t : Int) := by
  rw [List.getD_eq_getElem?_getD, List.getElem?_eq_getElem hk] at ht
  rw [List.getElem?_eq_getElem hk]; exact congrArg some ht
 have htk : br.take (k + 1) = br.take k ++ [(t : Int)] := by
  rw [List.take_succ_eq_append_getElem hk]
  rw [List.getElem?_eq_getElem hk] at hg
  rw [Option.some.inj hg]
 have hmem : (t : Int) ∈ brk l := by
  have := hm _ (List.mem_of_getElem? hg)
  unfold placesL at this
  rcases List.mem_cons.1 this with h | h
  ·omega
  ·exact h
 refine ⟨t, hg, t1, ?_, ?_, hmem, t3, by rw [htk, lastI_snoc], by rw [htk, mayS_snoc]; rfl⟩
 ·rcases way_from hb hm hk with h | ⟨b, h, x, hx, -⟩
  ·rw [h]; omega
  ·rw [h] at t3 ⊢
   have hbl := (List.getElem?_eq_some_iff.1 hx).1
   unfold firstL fst from1 at t3
   omega
 ·rcases way_from hb hm hk with h | ⟨b, h, -⟩ <;> rw [h] <;> omega
theorem results_rt3 {P : Program} {fn : Func} {p q r : Tmp} {t1 : TypeId} (h : fn.results = #[.cell p t1, .tmp q, .tmp r]) (tmps : Array Value) (w : World) (g1 : Nat) (t : TypeId) (cs : Array Value) (v2 v3 : Value) (d1 : TypeDesc)
  (e1 : tmps.getD p undef = .pointer (some ⟨g1, 0, none⟩)) (e2 : tmps.getD q undef = v2) (e3 : tmps.getD r undef = v3) (h1 : w.heap[g1]? = some (.cells cs t (0, 0)))
  (hu1 : P.underlying t1 = some d1) (hd1 : TypeDesc.isRow d1 = true) (hi : (P.info? t1).map (·.size) = some cs.size) :
  (results fn tmps).run P w = .ok (.tuple #[.agg cs, v2, v3]) w := by
 have e1' : tmps[p]?.getD undef = .pointer (some ⟨g1, 0, none⟩) := by simpa using e1
 have e2' : tmps[q]?.getD undef = v2 := by simpa using e2
 have e3' : tmps[r]?.getD undef = v3 := by simpa using e3
 have hl := run_loadVar_row (P := P) w g1 t t1 cs (0, 0) d1 h1 hu1 (by cases d1 <;> first | rfl | cases hd1) hi
 simp [results, h, e1', e2', e3', asAddr, hl]
theorem outRowT3 {P : Program} {fn : Func} {ty t : TypeId} {p q r : Tmp} {n₀ : Nat} {W : World} {a : Act} {R : Ending → World → Prop} {cs : Array Value} {v2 v3 : Value} (hf : fn.results = #[.cell p ty, .tmp q, .tmp r])
  (h2 : W.heap[n₀]? = some (.cells cs t (0, 0))) (e1 : a.tmps.getD p undef = .pointer (some ⟨n₀, 0, none⟩)) (e2 : a.tmps.getD q undef = v2) (e3 : a.tmps.getD r undef = v3) (hd : a.defers = [])
  (hk : (P.underlying ty).map TypeDesc.isRow = some true) (hi : (P.info? ty).map (·.size) = some cs.size) (hR : R (.returned (.tuple #[.agg cs, v2, v3])) W) : bodyPost P fn R .ret a W := by
 obtain ⟨d, hu, hr⟩ := Option.map_eq_some_iff.1 hk
 exact bodyPost_ret (results_rt3 hf _ _ n₀ t cs v2 v3 d e1 e2 e3 h2 hu hr hi) hd hR
/-- what the walk knows in each round -/
structure Wk2 (W : World) (w : World) (n₀ : Nat) (par : Array Value) (vp : Value) (BL : List Int) (v : Value) (x : Wy) : Prop where
 below : Below n₀ w W
 par : W.heap[n₀]? = some (.cells par 82 (0, 0))
 way : W.heap[n₀ + 1]? = some (.cells (wayV v x) 52 (0, 0))
 row : Sl W 1 encI v x.br
 hi : ∀ a n m, v = .slice (some a) n m → n₀ + 1 < a.block
 pl : Sl W 1 encI vp BL
/-- a way is answered, and whether it may be -/
def Walked (m : Bool) (e : Ending) : Prop := ∃ (q : Option Addr) (a b : Nat) (c d : Int), e = .returned (.tuple #[.agg #[.slice q a b, .int .i64 c, .int .i64 d], .bool true, .bool m])
section
variable {l : List It} {p : Option Addr} {cap : Nat} {wd tol : Int}
set_option maxRecDepth 100000 in
set_option maxHeartbeats 8000000 in
theorem walk_any (all : Bool) (bv : Value) (br : List Int) (w : World) (hl : Sl w 6 encIt (.slice p l.length cap) l) (h6 : l.length ≤ 600) (hok : ∀ x ∈ l, x.ok) (hwd : 0 ≤ wd ∧ wd ≤ 10000) (hb : Sl w 1 encI bv br)
  (hleg : Leg l wd tol all (-1) br) (hmem : ∀ b ∈ br, b ∈ placesL l) (hlast : lastI (-1) br = l.length) (hne : br ≠ []) (hbl : br.length ≤ 900) :
  Calls Tryz.prog 44 #[.agg (parV (.slice p l.length cap) wd tol), bv] w fun e w' => Walked (mayS l wd tol (-1) br) e ∧ Below w.heap.size w w' := by
 obtain ⟨bq, bc, rfl, -⟩ := hb.shape
 obtain ⟨n₀, hn₀⟩ : ∃ n, w.heap.size = n := ⟨_, rfl⟩
 rw [hn₀]
 have cL := hid (fun (W : World) (h : Below n₀ w W) => (Kept.of_below (hn₀ ▸ h : Below w.heap.size w W) 0).sl hl)
 have cX := hid (fun (W : World) (h : Below n₀ w W) => (Kept.of_below (hn₀ ▸ h : Below w.heap.size w W) 0).sl hb)
 have hst := hid (fun k (hk : k < br.length) => walk_step hleg hmem hk)
 have hbr : bq ≠ none ∧ ∀ W, Below n₀ w W → ∃ bb ob, bq = some ⟨bb, ob, none⟩ ∧ ∀ k b, br[k]? = some b → W.cell? ⟨bb, ob + k, none⟩ = some (.int .i64 b) := by
  refine ⟨?_, fun W h => ?_⟩
  ·obtain ⟨b8, o8, c8, e8, -⟩ := hb.open hne
   intro h; rw [h] at e8; cases e8
  ·obtain ⟨b8, o8, c8, e8, -, -, h8⟩ := (cL.out W h |> fun _ => cX.out W h).open hne
   obtain ⟨h7, -, -⟩ := Value.slice.inj e8
   exact ⟨b8, o8, h7, fun k b hk => by have := rangeAt_one (h8 k b hk); rwa [Nat.mul_one] at this⟩
 obtain ⟨bb, ob, rfl⟩ : ∃ bb ob, bq = some ⟨bb, ob, none⟩ := by
  obtain ⟨bb, ob, h, -⟩ := hbr.2 w (hn₀ ▸ Below.refl _ _)
  exact ⟨bb, ob, h⟩
 have kB := hid (fun W (h : Below n₀ w W) k b (hk : br[k]? = some b) => (show W.cell? ⟨bb, ob + k, none⟩ = some (.int .i64 b) from by
  obtain ⟨b2, o2, e2, h2⟩ := hbr.2 W h
  obtain ⟨rfl, rfl, -⟩ := Addr.mk.inj (Option.some.inj e2)
  exact h2 k b hk))
 have hlen0 : 0 < br.length := List.length_pos_iff.2 hne
 have hlg : br[br.length - 1]? = some (l.length : Int) := by
  have h9 := lastI_take (-1) br (br.length - 1) (by omega)
  rw [show br.length - 1 + 1 = br.length by omega, List.take_length, hlast, List.getD_eq_getElem?_getD, List.getElem?_eq_getElem (by omega)] at h9
  rw [List.getElem?_eq_getElem (by omega)]
  exact congrArg some h9.symm
 have hfin := hid (show mayS l wd tol (-1) (br.take br.length) = mayS l wd tol (-1) br by rw [List.take_length])
 have cM := hid (fun (W : World) (h : Below n₀ w W) => MBreaks_any l p cap W (cL.out W h) (by omega) hok)
 have cC := hid (fun (W : World) (v : Value) (x : Int) (h : Sl W 1 encI v (brk l)) => ContainsI_any v (brk l) x W h)
 have cB := hid (fun (W : World) (h : Below n₀ w W) (n : Int) (t : Nat) (hn : w64 n) => boxed_any (l := l) (p := p) (cap := cap) (wd := wd) (tol := tol) n t W (cL.out W h) (by omega) hn)
 have cW := hid (fun (W : World) (h : Below n₀ w W) (x : Wy) (v : Value) (n : Int) (t : Nat) (hn : w64 n) (ht : t ≤ l.length) (hx : Sl W 1 encI v x.br) (hb : x.bd 1000) => with_any (l := l) (p := p) (cap := cap) (wd := wd) (tol := tol) x v n t W (cL.out W h) (by omega) hn ht hok hwd hx hb)
 obtain ⟨LB, hLB⟩ : ∃ y, br.length = y := ⟨_, rfl⟩
 rw [hLB] at hst hlen0 hlg hfin hbl
 obtain ⟨L, hL⟩ : ∃ y, l.length = y := ⟨_, rfl⟩
 rw [hL] at hst hlg h6 cM cB cW
 rw [hLB, hL]
 obtain ⟨MB, hMB⟩ : ∃ y, mayS l wd tol (-1) br = y := ⟨_, rfl⟩
 rw [hMB] at hfin ⊢
 obtain ⟨BL, hBL⟩ : ∃ y, brk l = y := ⟨_, rfl⟩
 rw [hBL] at cM cC hst
 unfold parV at cB cW
 obtain ⟨W1, hW1⟩ : ∃ W : World, W = (w.alloc (.cells #[.slice p L cap, .int .i64 wd, .int .i64 tol] 82)).alloc (.cells #[.slice none 0 0, .int .i64 0, .int .i64 0] 52) := ⟨_, rfl⟩
 have z1 : (w.alloc (.cells #[.slice p L cap, .int .i64 wd, .int .i64 tol] 82)).heap.size = n₀ + 1 := by rw [World.size_alloc, hn₀]
 have zz : W1.heap.size = n₀ + 1 + 1 := by rw [hW1, World.size_alloc, z1]
 have g0 : W1.heap[n₀]? = some (.cells #[.slice p L cap, .int .i64 wd, .int .i64 tol] 82 (0, 0)) := by
  rw [hW1]
  refine (Kept.alloc 0 _ _).same _ _ ?_ (.inl rfl)
  rw [← hn₀]; exact World.alloc_heap_new w _
 have g1 : W1.heap[n₀ + 1]? = some (.cells #[.slice none 0 0, .int .i64 0, .int .i64 0] 52 (0, 0)) := by rw [hW1, ← z1]; exact World.alloc_heap_new _ _
 have B1 : Below n₀ w W1 := by rw [hW1, ← hn₀]; exact ((Below.refl _ w).alloc (Nat.le_refl _) _).alloc (by simp) _
 have c0 : W1.cell? ⟨n₀, 0, none⟩ = some (.slice p L cap) := cell_blk (i := 0) g0 rfl
 unfold parV
 clear hbr hl hb hleg hmem hne hlast hok hMB hBL z1
 replace hLB := hid hLB
 replace hL := hid hL
 go_enter Tryz.func44, Tryz.ntmps44
 go_upto_region 1 with (fail)
 rw [← hW1]
 clear hW1
 try simp only [hn₀]
 go_wp2_with (fail)
 refine (cM.out _ B1).mono ?_
 rintro r w3 ⟨v3, rfl, o3, b3⟩
 have s3 := sl_of_owns (enc := encI) (fun _ _ => rfl) o3
 obtain ⟨p3, c3, rfl, -, -⟩ := owns_shape o3
 have hp3 : ∀ a n m, (Value.slice p3 BL.length c3) = .slice (some a) n m → a.block ≠ n₀ + 1 := fun a n m e => by
  have h9 := own_base2 o3 (j := a.block) (by rw [e]; rfl)
  omega
 have hF0 : Wk2 w3 w n₀ #[.slice p L cap, .int .i64 wd, .int .i64 tol] (.slice p3 BL.length c3) BL (.slice none 0 0) ⟨[], 0, 0⟩ := ⟨B1.trans (b3.mono (by omega)), (Kept.of_below b3 0).same _ _ g0 (.inl rfl), (Kept.of_below b3 0).same _ _ g1 (.inl rfl), .inl ⟨rfl, rfl⟩, fun a n m e => (by cases e), s3⟩
 clear B1 g0 g1 c0 b3 o3 s3 zz cM
 go_upto_region 2 with (fail)
 obtain ⟨Wq, hWq⟩ : ∃ W : World, W = w3 := ⟨_, rfl⟩
 subst hWq
 have bd : Below Wq.heap.size Wq Wq.drew := (Below.refl _ Wq).drewN 1
 have hF1 : Wk2 Wq.drew w n₀ #[.slice p L cap, .int .i64 wd, .int .i64 tol] (.slice p3 BL.length c3) BL (.slice none 0 0) ⟨[], 0, 0⟩ := ⟨hF0.below.trans (bd.mono (by have := (Array.getElem?_eq_some_iff.1 hF0.par).1; omega)), (Kept.of_below bd 0).same _ _ hF0.par (.inl rfl), (Kept.of_below bd 0).same _ _ hF0.way (.inl rfl), .inl ⟨rfl, rfl⟩, hF0.hi, (Kept.of_below bd 0).sl hF0.pl⟩
 have hst2 : (fun V => V.cell? ⟨n₀, 0, none⟩ = some (.slice p L cap) ∧ V.cell? ⟨bb, ob + (LB - 1), none⟩ = some (.int .i64 (L : Int))) Wq.drew := ⟨cell_blk (i := 0) hF1.par rfl, kB.out _ hF1.below _ _ hlg⟩
 have h6I : ¬ (600 : Int) < (L : Int) := by omega
 have hLBb : ((LB : Int) == 0) = false := by simp; omega
 have hLB1 : IntKind.i64.wrap ((LB : Int) - 1) = ((LB - 1 : Nat) : Int) := by rw [IntKind.wrap_i64]; omega
 have hLB2 : ((LB - 1 : Nat) : Int) < (LB : Int) := by omega
 have hLB0 : (0 : Int) ≤ ((LB - 1 : Nat) : Int) := by omega
 have hLLb : ((L : Int) == (L : Int)) = true := by simp
 clear hF0 bd hlg
 refine wp_region_held_drew (S := (fun V => V.cell? ⟨n₀, 0, none⟩ = some (.slice p L cap) ∧ V.cell? ⟨bb, ob + (LB - 1), none⟩ = some (.int .i64 (L : Int)))) (by kernel_rfl) hst2 (fun hHeld => ?_)
 generalize Wq.drew = W5 at *
 refine tkH 0 (some 16) ?_ rfl (Or.inl ⟨by rfl, ?_⟩) ?_; rotate_left
 ·intro w hSw; (try dsimp only at hSw); go_simp <;> with_reducible rfl
 try simp only [Act.put, aS, aZ, aC]
 refine tkH 1 (some 17) ?_ rfl (Or.inl ⟨by rfl, ?_⟩) ?_; rotate_left
 ·intro w hSw; (try dsimp only at hSw); have h9 := hSw.1; go_simp <;> with_reducible rfl
 try simp only [Act.put, aS, aZ, aC]
 refine tkH 2 (some 18) ?_ rfl (Or.inl ⟨by rfl, ?_⟩) ?_; rotate_left
 ·intro w hSw; (try dsimp only at hSw); go_simp <;> with_reducible rfl
 try simp only [Act.put, aS, aZ, aC]
 refine tkH 3 (some 19) ?_ rfl (Or.inl ⟨by rfl, ?_⟩) ?_; rotate_left
 ·intro w hSw; (try dsimp only at hSw); go_simp <;> with_reducible rfl
 try simp only [Act.put, aS, aZ, aC]
 refine tkH 4 (some 20) ?_ rfl (Or.inl ⟨by rfl, ?_⟩) ?_; rotate_left
 ·intro w hSw; (try dsimp only at hSw); go_simp <;> with_reducible rfl
 try simp only [Act.put, aS, aZ, aC]
 refine tkH 5 (some 21) ?_ rfl (Or.inl ⟨by rfl, ?_⟩) ?_; rotate_left
 ·intro w hSw; (try dsimp only at hSw); go_simp <;> with_reducible rfl
 try simp only [Act.put, aS, aZ, aC]
 refine tkH 6 (some 22) ?_ rfl (Or.inl ⟨by rfl, ?_⟩) ?_; rotate_left
 ·intro w hSw; (try dsimp only at hSw); go_simp <;> with_reducible rfl
 try simp only [Act.put, aS, aZ, aC]
 refine tkH 7 (some 23) ?_ rfl (Or.inl ⟨by rfl, ?_⟩) ?_; rotate_left
 ·intro w hSw; (try dsimp only at hSw); go_simp <;> with_reducible rfl
 try simp only [Act.put, aS, aZ, aC]
 refine tkH 8 (some 24) ?_ rfl (Or.inl ⟨by rfl, ?_⟩) ?_; rotate_left
 ·intro w hSw; (try dsimp only at hSw); go_simp <;> with_reducible rfl
 try simp only [Act.put, aS, aZ, aC]
 refine tkH 9 (some 25) ?_ rfl (Or.inl ⟨by rfl, ?_⟩) ?_; rotate_left
 ·intro w hSw; (try dsimp only at hSw); go_simp <;> with_reducible rfl
 try simp only [Act.put, aS, aZ, aC]
 refine tkH 10 (some 26) ?_ rfl (Or.inl ⟨by rfl, ?_⟩) ?_; rotate_left
 ·intro w hSw; (try dsimp only at hSw); go_simp <;> with_reducible rfl
 try simp only [Act.put, aS, aZ, aC]
 refine tkH 11 (some 27) ?_ rfl (Or.inl ⟨by rfl, ?_⟩) ?_; rotate_left
 ·intro w hSw; (try dsimp only at hSw); go_simp <;> with_reducible rfl
 try simp only [Act.put, aS, aZ, aC]
 refine tkH 12 (some 28) ?_ rfl (Or.inl ⟨by rfl, ?_⟩) ?_; rotate_left
 ·intro w hSw; (try dsimp only at hSw); go_simp <;> with_reducible rfl
 try simp only [Act.put, aS, aZ, aC]
 refine tkH 13 (some 29) ?_ rfl (Or.inl ⟨by rfl, ?_⟩) ?_; rotate_left
 ·intro w hSw; (try dsimp only at hSw); go_simp <;> with_reducible rfl
 try simp only [Act.put, aS, aZ, aC]
 refine tkH 14 (some 30) ?_ rfl (Or.inl ⟨by rfl, ?_⟩) ?_; rotate_left
 ·intro w hSw; (try dsimp only at hSw); go_simp <;> with_reducible rfl
 try simp only [Act.put, aS, aZ, aC]
 refine tkH 15 (some 31) ?_ rfl (Or.inl ⟨by rfl, ?_⟩) ?_; rotate_left
 ·intro w hSw; (try dsimp only at hSw); have h9 := hSw.2; go_simp <;> with_reducible rfl
 try simp only [Act.put, aS, aZ, aC]
 refine tkH 16 (some 32) ?_ rfl (Or.inl ⟨by rfl, ?_⟩) ?_; rotate_left
 ·intro w hSw; (try dsimp only at hSw); go_simp <;> with_reducible rfl
 try simp only [Act.put, aS, aZ, aC]
 refine tkH 17 (some 33) ?_ rfl (Or.inl ⟨by rfl, ?_⟩) ?_; rotate_left
 ·intro w hSw; (try dsimp only at hSw); have h9 := hSw.1; go_simp <;> with_reducible rfl
 try simp only [Act.put, aS, aZ, aC]
 refine tkH 18 (some 34) ?_ rfl (Or.inl ⟨by rfl, ?_⟩) ?_; rotate_left
 ·intro w hSw; (try dsimp only at hSw); go_simp <;> with_reducible rfl
 try simp only [Act.put, aS, aZ, aC]
 refine tkH 19 (some 35) ?_ rfl (Or.inl ⟨by rfl, ?_⟩) ?_; rotate_left
 ·intro w hSw; (try dsimp only at hSw); go_simp <;> with_reducible rfl
 try simp only [Act.put, aS, aZ, aC]
 refine tkH 20 (some 36) ?_ rfl (Or.inl ⟨by rfl, ?_⟩) ?_; rotate_left
 ·intro w hSw; (try dsimp only at hSw); go_simp <;> with_reducible rfl
 try simp only [Act.put, aS, aZ, aC]
 refine wpAnyH_done (by kernel_rfl) ?_ _
 skip
 clear hHeld hst2 hLB1 hLB2 hLB0
 go_wp2_with (fail)
 go_loopw [6, 8, 40] (fun mv fv iv wr => ∃ (k : Nat) (x : Wy) (xv : Value), k ≤ LB ∧ mv = .bool (mayS l wd tol (-1) (br.take k)) ∧ fv = .int .i64 (lastI (-1) (br.take k)) ∧ iv = .int .i64 (k : Int) ∧ x.bd k ∧ Wk2 wr w n₀ #[.slice p L cap, .int .i64 wd, .int .i64 tol] (.slice p3 BL.length c3) BL xv x) (fun _ _ iv _ => LB - (RowKit.intOf iv).toNat)
 case atStart => exact ⟨0, ⟨[], 0, 0⟩, _, Nat.zero_le _, rfl, rfl, rfl, ⟨by simp, by simp, by simp, by simp, by simp⟩, hF1⟩
 case round =>
  clear hF1
  obtain ⟨k, x, xv, hk, rfl, rfl, rfl, hbd, hF⟩ := hrel
  by_cases hkl : k < LB
  ·have hkI : (k : Int) < (LB : Int) := by omega
   obtain ⟨t, e1, e2, e3, e4, e5, e6, e7, e8⟩ := hst.out k hkl
   obtain ⟨n, hn⟩ : ∃ n, lastI (-1) (br.take k) = n := ⟨_, rfl⟩
   obtain ⟨mb, hmb⟩ : ∃ b, mayS l wd tol (-1) (br.take k) = b := ⟨_, rfl⟩
   obtain ⟨tb, htb⟩ : ∃ b, (liS l wd tol n t).may = b := ⟨_, rfl⟩
   rw [hn] at e3 e4 e6 e8 ⊢
   rw [hmb, htb] at e8
   rw [hmb]
   have hw8 : IntKind.i64.wrap ((k : Int) + 1) = (k : Int) + 1 := by rw [IntKind.wrap_i64]; omega
   have e3n : ¬ ((t : Int) ≤ n) := by omega
   have hck := kB.out _ hF.below _ _ e1
   have cC1 := hid (cC.out wr (.slice p3 BL.length c3) (t : Int) hF.pl)
   rw [decide_eq_true e5] at cC1
   have cB1 := hid (fun W (h : Below n₀ w W) => cB.out W h n t ⟨by omega, by omega⟩)
   rw [decide_eq_true e6] at cB1
   obtain ⟨xq, xc, rfl, -⟩ := hF.row.shape
   have cW1 := hid (fun W (h : Below n₀ w W) (hx : Sl W 1 encI (.slice xq x.br.length xc) x.br) => cW.out W h x _ n t ⟨by omega, by omega⟩ e2 hx (Wy.bd_mono hbd (by omega)))
   rw [htb] at cW1
   unfold wayV at cW1
   have hbd2 := more_bd hbd l wd tol n t t
   have hml : (moreW x (liS l wd tol n t) t).br = x.br ++ [(t : Int)] := rfl
   have hmn : (x.br ++ [(t : Int)]).length = x.br.length + 1 := List.length_append
   obtain ⟨y, hy⟩ : ∃ y, moreW x (liS l wd tol n t) t = y := ⟨_, rfl⟩
   rw [hy] at cW1 hbd2 hml
   replace e7 := hid e7
   replace e8 := hid e8
   replace hml := hid hml
   replace hmn := hid hmn
   have p0 : wr.cell? ⟨n₀, 0, none⟩ = some (.slice p L cap) := cell_blk (i := 0) hF.par rfl
   have p1 : wr.cell? ⟨n₀, 1, none⟩ = some (.int .i64 wd) := cell_blk (i := 1) hF.par rfl
   have p2 : wr.cell? ⟨n₀, 2, none⟩ = some (.int .i64 tol) := cell_blk (i := 2) hF.par rfl
   have y0 : wr.cell? ⟨n₀ + 1, 0, none⟩ = some (.slice xq x.br.length xc) := cell_blk (i := 0) hF.way rfl
   have y1 : wr.cell? ⟨n₀ + 1, 1, none⟩ = some (.int .i64 x.tot) := cell_blk (i := 1) hF.way rfl
   have y2 : wr.cell? ⟨n₀ + 1, 2, none⟩ = some (.int .i64 x.ov) := cell_blk (i := 2) hF.way rfl
   clear e1 e3 e4 e5 e6 hn hmb htb hy
   go_wp2_with (fail)
   refine cC1.out.mono ?_
   rintro r w4 ⟨rfl, rfl⟩
   go_wp2_with (fail)
   refine (cB1.out _ hF.below).mono ?_
   rintro r w5 ⟨rfl, b5⟩
   have hn1 : n₀ + 1 < w4.heap.size := (Array.getElem?_eq_some_iff.1 hF.way).1
   have hF5 : Wk2 w5 w n₀ #[.slice p L cap, .int .i64 wd, .int .i64 tol] (.slice p3 BL.length c3) BL (.slice xq x.br.length xc) x := ⟨hF.below.trans (b5.mono (by omega)), (Kept.of_below b5 0).same _ _ hF.par (.inl rfl), (Kept.of_below b5 0).same _ _ hF.way (.inl rfl), (Kept.of_below b5 0).sl hF.row, hF.hi, (Kept.of_below b5 0).sl hF.pl⟩
   have hn5 : n₀ + 1 < w5.heap.size := by have := b5.size; omega
   clear p0 p1 p2 y0 y1 y2 hck hF b5 cC1 cB1 hn1
   have p0 : w5.cell? ⟨n₀, 0, none⟩ = some (.slice p L cap) := cell_blk (i := 0) hF5.par rfl
   have p1 : w5.cell? ⟨n₀, 1, none⟩ = some (.int .i64 wd) := cell_blk (i := 1) hF5.par rfl
   have p2 : w5.cell? ⟨n₀, 2, none⟩ = some (.int .i64 tol) := cell_blk (i := 2) hF5.par rfl
   have y0 : w5.cell? ⟨n₀ + 1, 0, none⟩ = some (.slice xq x.br.length xc) := cell_blk (i := 0) hF5.way rfl
   have y1 : w5.cell? ⟨n₀ + 1, 1, none⟩ = some (.int .i64 x.tot) := cell_blk (i := 1) hF5.way rfl
   have y2 : w5.cell? ⟨n₀ + 1, 2, none⟩ = some (.int .i64 x.ov) := cell_blk (i := 2) hF5.way rfl
   go_wp2_with (fail)
   refine (cW1.out _ hF5.below hF5.row).mono ?_
   rintro r w6 ⟨v6, rfl, o6, b6⟩
   have hzb := b6.size
   have hv6 : ∀ a n m, v6 = .slice (some a) n m → n₀ + 1 < a.block := fun a n m e => by
    have h9 := own_base2 o6 (j := a.block) (by rw [e]; rfl)
    omega
   have s6 : Sl w6 1 encI v6 y.br := by
    rw [hml.out]
    have h := o6
    rw [← hmn.out] at h
    exact sl_of_owns (fun _ _ => rfl) h
   obtain ⟨q6, c6, rfl, -, -⟩ := owns_shape o6
   have hF6 : Wk2 w6 w n₀ #[.slice p L cap, .int .i64 wd, .int .i64 tol] (.slice p3 BL.length c3) BL (.slice xq x.br.length xc) x := ⟨hF5.below.trans (b6.mono (by omega)), (Kept.of_below b6 0).same _ _ hF5.par (.inl rfl), (Kept.of_below b6 0).same _ _ hF5.way (.inl rfl), (Kept.of_below b6 0).sl hF5.row, hF5.hi, (Kept.of_below b6 0).sl hF5.pl⟩
   obtain ⟨nA, hnA⟩ : ∃ n, w6.heap.size = n := ⟨_, rfl⟩
   have gA := World.alloc_heap_new w6 (.cells #[.slice none 0 0, .int .i64 0, .int .i64 0] 52)
   rw [hnA] at gA
   have kA := Kept.alloc 0 w6 (.cells #[.slice none 0 0, .int .i64 0, .int .i64 0] 52)
   have hthA : (w6.alloc (.cells #[.slice none 0 0, .int .i64 0, .int .i64 0] 52)).there nA 0 (#[.slice q6 (x.br.length + 1) c6, .int .i64 y.tot, .int .i64 y.ov] : Array Value).size := there_blk gA rfl
   have uA := (Upd.refl gA).setCells (#[.slice q6 (x.br.length + 1) c6, .int .i64 y.tot, .int .i64 y.ov] : Array Value).toList rfl
   have gA7 := uA.here
   rw [Array.toArray_toList] at gA7
   have B7 := uA.below (hF6.below.alloc (by omega) (.cells #[.slice none 0 0, .int .i64 0, .int .i64 0] 52)) (by omega)
   have gw7 := (uA.off (n₀ + 1) (by omega)).trans (kA.same _ _ hF6.way (.inl rfl))
   have gp7 := (uA.off n₀ (by omega)).trans (kA.same _ _ hF6.par (.inl rfl))
   have b67 : Below w6.heap.size w6 ((w6.alloc (.cells #[.slice none 0 0, .int .i64 0, .int .i64 0] 52)).setCells nA 0 (#[.slice q6 (x.br.length + 1) c6, .int .i64 y.tot, .int .i64 y.ov] : Array Value).toList) := uA.below ((Below.refl _ w6).alloc (Nat.le_refl _) _) (by omega)
   have s7 := (Kept.of_below b67 0).sl s6
   have pl7 := (Kept.of_below b67 0).sl hF6.pl
   clear p0 p1 p2 y0 y1 y2 hF5 b6 o6 cW1
   go_upto_region 12 with (refine wpList_store_mid rfl 52 _ _ rfl nA 0 #[.slice q6 (x.br.length + 1) c6, .int .i64 y.tot, .int .i64 y.ov] rfl rfl hthA (by kernel_rfl) (way_one _ _ _ _ _) ?_)
   obtain ⟨W7, hW7⟩ : ∃ W : World, W = (w6.alloc (.cells #[.slice none 0 0, .int .i64 0, .int .i64 0] 52)).setCells nA 0 (#[.slice q6 (x.br.length + 1) c6, .int .i64 y.tot, .int .i64 y.ov] : Array Value).toList := ⟨_, rfl⟩
   rw [← hW7] at gA7 B7 gw7 gp7 s7 pl7 ⊢
   clear hW7 hthA uA kA gA b67 hF6 s6 hnA
   have hr7 : W7.rangeAt nA 0 [Value.slice q6 (x.br.length + 1) c6, .int .i64 y.tot, .int .i64 y.ov] := range_blk (cs := [Value.slice q6 (x.br.length + 1) c6, .int .i64 y.tot, .int .i64 y.ov]) gA7
   have ht7 : W7.there (n₀ + 1) 0 (#[.slice q6 (x.br.length + 1) c6, .int .i64 y.tot, .int .i64 y.ov] : Array Value).size := there_blk gw7 rfl
   have u7 := (Upd.refl gw7).setCells (#[.slice q6 (x.br.length + 1) c6, .int .i64 y.tot, .int .i64 y.ov] : Array Value).toList rfl
   have gw8 := u7.here
   rw [Array.toArray_toList] at gw8
   have hF8 : Wk2 (W7.setCells (n₀ + 1) 0 (#[.slice q6 (x.br.length + 1) c6, .int .i64 y.tot, .int .i64 y.ov] : Array Value).toList) w n₀ #[.slice p L cap, .int .i64 wd, .int .i64 tol] (.slice p3 BL.length c3) BL (.slice q6 (x.br.length + 1) c6) y := ⟨u7.below B7 (by omega), (u7.off n₀ (by omega)).trans gp7, gw8, sl_off s7 (fun a n m e => by have := hv6 a n m e; omega), hv6, sl_off pl7 hp3⟩
   replace hF8 := hid hF8
   clear u7 gw8 gw7 gp7 s7 pl7 B7 gA7
   cases mb with
   | true =>
    go_wp2_with (first | refine wpList_load_mid rfl 52 _ rfl nA 0 rfl [Value.slice q6 (x.br.length + 1) c6, .int .i64 y.tot, .int .i64 y.ov] _ hr7 Tryz.underlying52 rfl (by kernel_rfl) ?_ | refine wpList_store_mid rfl 52 _ _ rfl (n₀ + 1) 0 #[.slice q6 (x.br.length + 1) c6, .int .i64 y.tot, .int .i64 y.ov] rfl rfl ht7 (by kernel_rfl) (way_one _ _ _ _ _) ?_)
    exact ⟨⟨k + 1, y, _, by omega, by rw [e8.out]; simp, by rw [e7.out], by go_num, hbd2, hF8.out⟩, by simp [RowKit.intOf]; omega⟩
   | false =>
    go_wp2_with (first | refine wpList_load_mid rfl 52 _ rfl nA 0 rfl [Value.slice q6 (x.br.length + 1) c6, .int .i64 y.tot, .int .i64 y.ov] _ hr7 Tryz.underlying52 rfl (by kernel_rfl) ?_ | refine wpList_store_mid rfl 52 _ _ rfl (n₀ + 1) 0 #[.slice q6 (x.br.length + 1) c6, .int .i64 y.tot, .int .i64 y.ov] rfl rfl ht7 (by kernel_rfl) (way_one _ _ _ _ _) ?_)
    exact ⟨⟨k + 1, y, _, by omega, by rw [e8.out]; simp, by rw [e7.out], by go_num, hbd2, hF8.out⟩, by simp [RowKit.intOf]; omega⟩
  ·obtain rfl : k = LB := by omega
   rw [hfin.out]
   obtain ⟨xq, xc, rfl, -⟩ := hF.row.shape
   have gw := hF.way
   unfold wayV at gw
   have y0 := range_blk (cs := [Value.slice xq x.br.length xc, .int .i64 x.tot, .int .i64 x.ov]) gw
   have ht7 : wr.there (n₀ + 1) 0 (#[.slice xq x.br.length xc, .int .i64 x.tot, .int .i64 x.ov] : Array Value).size := there_blk gw rfl
   have u7 := (Upd.refl gw).setCells (#[.slice xq x.br.length xc, .int .i64 x.tot, .int .i64 x.ov] : Array Value).toList rfl
   have hRes := u7.here
   rw [Array.toArray_toList] at hRes
   have BR := u7.below hF.below (by omega)
   replace hRes := hid hRes
   replace BR := hid BR
   clear u7 gw hF
   go_wp2_with (first | refine wpList_load_mid rfl 52 _ rfl (n₀ + 1) 0 rfl [Value.slice xq x.br.length xc, .int .i64 x.tot, .int .i64 x.ov] _ y0 Tryz.underlying52 rfl (by kernel_rfl) ?_ | refine wpList_store_mid rfl 52 _ _ rfl (n₀ + 1) 0 #[.slice xq x.br.length xc, .int .i64 x.tot, .int .i64 x.ov] rfl rfl ht7 (by kernel_rfl) (way_one _ _ _ _ _) ?_)
   exact outRowT3 (ty := 52) rfl hRes.out rfl rfl rfl rfl (by kernel_rfl) (by kernel_rfl) ⟨⟨xq, _, xc, _, _, rfl⟩, BR.out⟩
set_option maxRecDepth 100000 in
set_option maxHeartbeats 4000000 in
theorem May_any (a b c d e : Int) (bv : Value) (w : World) (hl : Sl w 6 encIt (.slice p l.length cap) l) (h6 : l.length ≤ 600) (h0 : firstL l (-1) < l.length) (hok : ∀ x ∈ l, x.ok)
  (hb : Sl w 1 encI bv (bestS l (cutI a 0 10000) (cutI c 0 10000)).br) :
  Calls Tryz.prog 22 #[.slice p l.length cap, .agg #[.int .i64 a, .int .i64 b, .int .i64 c, .int .i64 d, .int .i64 e], bv] w fun e' w' => e' = .returned (.bool (mayS l (cutI a 0 10000) (cutI c 0 10000) (-1) (bestS l (cutI a 0 10000) (cutI c 0 10000)).br)) ∧ Below w.heap.size w w' := by
 obtain ⟨bq, bc, rfl, -⟩ := hb.shape
 obtain ⟨n₀, hn₀⟩ : ∃ n, w.heap.size = n := ⟨_, rfl⟩
 rw [hn₀]
 have cO := hid (fun (W : World) => of_any p l.length cap a b c d e W)
 obtain ⟨all, his, hbn, -⟩ := best_is (l := l) (cutI a 0 10000) (cutI c 0 10000) h6 h0
 have hbb := (best_bd l (cutI a 0 10000) (cutI c 0 10000)).1
 have hwb := cutI_bd (n := a) (lo := 0) (hi := 10000) (by omega)
 have cW := hid (fun (W : World) (h : Below n₀ w W) => walk_any (p := p) (cap := cap) all _ _ W ((Kept.of_below (hn₀ ▸ h : Below w.heap.size w W) 0).sl hl) h6 hok hwb ((Kept.of_below (hn₀ ▸ h : Below w.heap.size w W) 0).sl hb) his.leg his.mem his.last hbn (by omega))
 unfold parV at cO cW
 obtain ⟨wd, hwd⟩ : ∃ y, cutI a 0 10000 = y := ⟨_, rfl⟩
 obtain ⟨tol, htol⟩ : ∃ y, cutI c 0 10000 = y := ⟨_, rfl⟩
 rw [hwd, htol] at cO cW ⊢
 obtain ⟨br, hbr⟩ : ∃ y, (bestS l wd tol).br = y := ⟨_, rfl⟩
 rw [hbr] at cW ⊢
 obtain ⟨LB, hLB⟩ : ∃ y, br.length = y := ⟨_, rfl⟩
 obtain ⟨L, hL⟩ : ∃ y, l.length = y := ⟨_, rfl⟩
 obtain ⟨M, hM⟩ : ∃ y, mayS l wd tol (-1) br = y := ⟨_, rfl⟩
 rw [hLB, hM, hL] at cW
 rw [hL] at cO
 rw [hLB, hM, hL]
 clear hwd htol hbr hLB hL hM his hbn hbb hwb hl hb h0 h6 hok
 obtain ⟨W1, hW1⟩ : ∃ W : World, W = w.alloc (.cells #[.int .i64 a, .int .i64 b, .int .i64 c, .int .i64 d, .int .i64 e] 26) := ⟨_, rfl⟩
 have g0 : W1.heap[n₀]? = some (.cells #[.int .i64 a, .int .i64 b, .int .i64 c, .int .i64 d, .int .i64 e] 26 (0, 0)) := by rw [hW1, ← hn₀]; exact World.alloc_heap_new w _
 have B1 : Below n₀ w W1 := by rw [hW1, ← hn₀]; exact (Below.refl _ w).alloc (Nat.le_refl _) _
 have hz1 : n₀ < W1.heap.size := (Array.getElem?_eq_some_iff.1 g0).1
 have s0 : W1.cell? ⟨n₀, 0, none⟩ = some (.int .i64 a) := cell_blk (i := 0) g0 rfl
 have s1 : W1.cell? ⟨n₀, 1, none⟩ = some (.int .i64 b) := cell_blk (i := 1) g0 rfl
 have s2 : W1.cell? ⟨n₀, 2, none⟩ = some (.int .i64 c) := cell_blk (i := 2) g0 rfl
 have s3 : W1.cell? ⟨n₀, 3, none⟩ = some (.int .i64 d) := cell_blk (i := 3) g0 rfl
 have s4 : W1.cell? ⟨n₀, 4, none⟩ = some (.int .i64 e) := cell_blk (i := 4) g0 rfl
 clear g0
 go_enter Tryz.func22, Tryz.ntmps22
 go_upto_region 1 with (fail)
 rw [← hW1]
 clear hW1
 try simp only [hn₀]
 go_wp2_with (fail)
 refine (cO.out _).mono ?_
 rintro r w2 ⟨rfl, b2⟩
 have B2 := B1.trans (b2.mono (by omega))
 clear s0 s1 s2 s3 s4 B1 cO
 go_wp2_with (fail)
 refine (cW.out _ B2).mono ?_
 rintro r w3 ⟨⟨q, qa, qb, x, y, rfl⟩, b3⟩
 have B3 := B2.trans (b3.mono (by have := b2.size; omega))
 have hz3 : n₀ ≤ w3.heap.size := by have := b2.size; have := b3.size; omega
 obtain ⟨nA, hnA⟩ : ∃ n, w3.heap.size = n := ⟨_, rfl⟩
 have gA := World.alloc_heap_new w3 (.cells #[.slice none 0 0, .int .i64 0, .int .i64 0] 52)
 rw [hnA] at gA hz3
 have hthA : (w3.alloc (.cells #[.slice none 0 0, .int .i64 0, .int .i64 0] 52)).there nA 0 (#[.slice q qa qb, .int .i64 x, .int .i64 y] : Array Value).size := there_blk gA rfl
 have uA := (Upd.refl gA).setCells (#[.slice q qa qb, .int .i64 x, .int .i64 y] : Array Value).toList rfl
 have BR := hid (uA.below (B3.alloc (by omega) (.cells #[.slice none 0 0, .int .i64 0, .int .i64 0] 52)) (by omega))
 clear uA B2 B3 b2 b3 cW
 go_wp2_with (refine wpList_store_mid rfl 52 _ _ rfl nA 0 #[.slice q qa qb, .int .i64 x, .int .i64 y] rfl rfl hthA (by kernel_rfl) (way_one _ _ _ _ _) ?_)
 go_ret
 exact ⟨rfl, BR.out⟩
end
end Go.Proofs.YtempicociampoaaGreatDoor
