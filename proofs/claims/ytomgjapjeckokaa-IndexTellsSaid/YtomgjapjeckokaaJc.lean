/- Jc: IzL, IzM, IzN in one text. -/
import Derived.Test.YtomgjapjeckokaaSqz
import Derived.Test.YtomgjapjeckokaaIxH
import Derived.Deep.RegionHeld3
import Derived.Test.YtomgjapjeckokaaIxX
import Derived.Deep.CutBlock
namespace Go.Proofs.Ytomgjapjeckokaa
open Go.RowKit Go.Shelf Go.Lib

theorem rotW2 (x : W32) (n a b : Nat) (ha : a = 2 ^ (32 - n)) (hb : b = 2 ^ n) : bits .or .u32 ((x.toNat : Int) / (b : Int)) ((x.toNat : Int) * (a : Int) % 4294967296) = ((rotr x n).toNat : Int) := by
  subst ha hb
  rw [shlW, shrW, bits_orW, BitVec.or_comm]; rfl
set_option maxRecDepth 100000 in
set_option maxHeartbeats 1000000 in
theorem rturn_any (x : W32) (n : Nat) (h : n = 2 ∨ n = 6 ∨ n = 7 ∨ n = 11 ∨ n = 13 ∨ n = 17 ∨ n = 18 ∨ n = 19 ∨ n = 22 ∨ n = 25) (w : World) :
    Calls Try.prog 82 #[vW x, .int .i64 (n : Int)] w fun e w' => e = .returned (vW (rotr x n)) ∧ w' = w := by
  unfold vW
  rcases h with rfl | rfl | rfl | rfl | rfl | rfl | rfl | rfl | rfl | rfl
  · go_enter Try.func82, Try.ntmps82
    go_wp2_with (fail)
    go_ret
    exact ⟨by rw [← rotW2 x 2 1073741824 4 rfl rfl]; rfl, rfl⟩
  · go_enter Try.func82, Try.ntmps82
    go_wp2_with (fail)
    go_ret
    exact ⟨by rw [← rotW2 x 6 67108864 64 rfl rfl]; rfl, rfl⟩
  · go_enter Try.func82, Try.ntmps82
    go_wp2_with (fail)
    go_ret
    exact ⟨by rw [← rotW2 x 7 33554432 128 rfl rfl]; rfl, rfl⟩
  · go_enter Try.func82, Try.ntmps82
    go_wp2_with (fail)
    go_ret
    exact ⟨by rw [← rotW2 x 11 2097152 2048 rfl rfl]; rfl, rfl⟩
  · go_enter Try.func82, Try.ntmps82
    go_wp2_with (fail)
    go_ret
    exact ⟨by rw [← rotW2 x 13 524288 8192 rfl rfl]; rfl, rfl⟩
  · go_enter Try.func82, Try.ntmps82
    go_wp2_with (fail)
    go_ret
    exact ⟨by rw [← rotW2 x 17 32768 131072 rfl rfl]; rfl, rfl⟩
  · go_enter Try.func82, Try.ntmps82
    go_wp2_with (fail)
    go_ret
    exact ⟨by rw [← rotW2 x 18 16384 262144 rfl rfl]; rfl, rfl⟩
  · go_enter Try.func82, Try.ntmps82
    go_wp2_with (fail)
    go_ret
    exact ⟨by rw [← rotW2 x 19 8192 524288 rfl rfl]; rfl, rfl⟩
  · go_enter Try.func82, Try.ntmps82
    go_wp2_with (fail)
    go_ret
    exact ⟨by rw [← rotW2 x 22 1024 4194304 rfl rfl]; rfl, rfl⟩
  · go_enter Try.func82, Try.ntmps82
    go_wp2_with (fail)
    go_ret
    exact ⟨by rw [← rotW2 x 25 128 33554432 rfl rfl]; rfl, rfl⟩

set_option maxRecDepth 100000 in
set_option maxHeartbeats 1000000 in
theorem rconstants_any (w : World) :
    Calls Try.prog 83 #[] w fun e w' => e = .returned (.agg (rowW kW)) ∧ Below w.heap.size w w' := by
  go_enter Try.func83, Try.ntmps83
  go_upto_region 1 with (fail)
  obtain ⟨W0, hW0⟩ : ∃ W : World, W = w.alloc (.cells #[.int .u32 0, .int .u32 0, .int .u32 0, .int .u32 0, .int .u32 0, .int .u32 0, .int .u32 0, .int .u32 0, .int .u32 0, .int .u32 0, .int .u32 0, .int .u32 0, .int .u32 0, .int .u32 0, .int .u32 0, .int .u32 0, .int .u32 0, .int .u32 0, .int .u32 0, .int .u32 0, .int .u32 0, .int .u32 0, .int .u32 0, .int .u32 0, .int .u32 0, .int .u32 0, .int .u32 0, .int .u32 0, .int .u32 0, .int .u32 0, .int .u32 0, .int .u32 0, .int .u32 0, .int .u32 0, .int .u32 0, .int .u32 0, .int .u32 0, .int .u32 0, .int .u32 0, .int .u32 0, .int .u32 0, .int .u32 0, .int .u32 0, .int .u32 0, .int .u32 0, .int .u32 0, .int .u32 0, .int .u32 0, .int .u32 0, .int .u32 0, .int .u32 0, .int .u32 0, .int .u32 0, .int .u32 0, .int .u32 0, .int .u32 0, .int .u32 0, .int .u32 0, .int .u32 0, .int .u32 0, .int .u32 0, .int .u32 0, .int .u32 0, .int .u32 0] 118) := ⟨_, rfl⟩
  have a0 : W0.heap[w.heap.size]? = some (.cells (rowW (List.replicate 64 0)) 118 (0, 0)) := by
    rw [hW0, zero64_is]; exact World.alloc_heap_new w _
  have B0 : Below w.heap.size w W0 := by rw [hW0]; exact (Below.refl _ w).alloc (Nat.le_refl _) _
  rw [← hW0]
  clear hW0
  refine wp_region_list ?_
  refine wpList_yield rfl (.agg (rowW kW)) (by kernel_rfl) ?_
  refine wpList_store_mid rfl 118 _ _ rfl w.heap.size 0 (rowW kW) rfl rfl (there_blk a0 (by kernel_rfl)) (by kernel_rfl) (one_rowW _) ?_
  have u1 := (Upd.refl a0).setCells (rowW kW).toList (by kernel_rfl)
  have B1 := u1.below B0 (Nat.le_refl _)
  obtain ⟨W1, hW1⟩ : ∃ W : World, W = W0.setCells w.heap.size 0 (rowW kW).toList := ⟨_, rfl⟩
  rw [← hW1] at u1 B1 ⊢
  clear hW1
  refine wpList_nil ?_
  go_wp2_with (fail)
  exact outRow (ty := 118) rfl u1.here rfl rfl (by kernel_rfl) (by kernel_rfl) ⟨rfl, B1⟩
theorem sum_byte (a : W32) (c : UInt8) : a <<< 8 + BitVec.ofNat 32 c.toNat = a <<< 8 ||| BitVec.ofNat 32 c.toNat := by
  refine BitVec.add_eq_or_of_and_eq_zero _ _ ?_
  apply BitVec.eq_of_getLsbD_eq
  intro i hi
  rw [BitVec.getLsbD_and, BitVec.getLsbD_shiftLeft, BitVec.getLsbD_ofNat]
  by_cases h : i < 8
  · simp [h]
  · have h9 : c.toNat.testBit i = false := Nat.testBit_lt_two_pow (Nat.lt_of_lt_of_le c.toNat_lt (Nat.pow_le_pow_right (n := 2) (i := 8) (by decide) (by omega)))
    simp [h9]
theorem choose_is (e f g : W32) : e &&& f ||| ~~~e &&& g = e &&& f ^^^ ~~~e &&& g := by
  apply BitVec.eq_of_getLsbD_eq
  intro i hi
  simp only [BitVec.getLsbD_or, BitVec.getLsbD_xor, BitVec.getLsbD_and, BitVec.getLsbD_not]
  cases e.getLsbD i <;> cases f.getLsbD i <;> cases g.getLsbD i <;> simp [hi]
theorem most_is (a b c : W32) : a &&& b ||| a &&& c ||| b &&& c = a &&& b ^^^ a &&& c ^^^ b &&& c := by
  apply BitVec.eq_of_getLsbD_eq
  intro i hi
  simp only [BitVec.getLsbD_or, BitVec.getLsbD_xor, BitVec.getLsbD_and]
  cases a.getLsbD i <;> cases b.getLsbD i <;> cases c.getLsbD i <;> rfl
theorem zx (x : W32) : 0 ^^^ x = x := by simp
theorem next_is (l : List W32) (t : Nat) : l.getD (t - 16) 0 + l.getD (t - 7) 0 + (rotr (l.getD (t - 15) 0) 7 ^^^ rotr (l.getD (t - 15) 0) 18 ^^^ l.getD (t - 15) 0 >>> 3) + (rotr (l.getD (t - 2) 0) 17 ^^^ rotr (l.getD (t - 2) 0) 19 ^^^ l.getD (t - 2) 0 >>> 10) = nextW l t := by
  unfold nextW turnW
  simp only [List.foldl_cons, List.foldl_nil, zx]
  ac_rfl
theorem stepX_is (s : H8) (k w : W32) : s.h + (rotr s.e 6 ^^^ rotr s.e 11 ^^^ rotr s.e 25) + (s.e &&& s.f ||| ~~~s.e &&& s.g) + k + w = stepX s k w := by
  unfold stepX turnW
  simp only [List.foldl_cons, List.foldl_nil, zx, choose_is]
theorem stepY_is (s : H8) : (rotr s.a 2 ^^^ rotr s.a 13 ^^^ rotr s.a 22) + (s.a &&& s.b ||| s.a &&& s.c ||| s.b &&& s.c) = stepY s := by
  unfold stepY turnW
  simp only [List.foldl_cons, List.foldl_nil, zx, most_is]
theorem turn8_l (s : H8) (bl : List UInt8) : (turn8 s bl).l = [s.a + (run8 s (schedW bl 64) 64).a, s.b + (run8 s (schedW bl 64) 64).b, s.c + (run8 s (schedW bl 64) 64).c, s.d + (run8 s (schedW bl 64) 64).d, s.e + (run8 s (schedW bl 64) 64).e, s.f + (run8 s (schedW bl 64) 64).f, s.g + (run8 s (schedW bl 64) 64).g, s.h + (run8 s (schedW bl 64) 64).h] := by
  unfold turn8
  generalize run8 s (schedW bl 64) 64 = r
  unfold plus8 H8.l
  simp only [show (0 : Nat) < 8 from by decide, show (1 : Nat) < 8 from by decide, show (2 : Nat) < 8 from by decide, show (3 : Nat) < 8 from by decide, show (4 : Nat) < 8 from by decide, show (5 : Nat) < 8 from by decide, show (6 : Nat) < 8 from by decide, show (7 : Nat) < 8 from by decide, if_true]
  simp only [BitVec.add_comm]
end Go.Proofs.Ytomgjapjeckokaa
namespace Go.Proofs.Ytomgjapjeckokaa
open Go.RowKit Go.Shelf Go.Lib

theorem sumU (x : W32) (c : UInt8) : IntKind.u32.wrap ((x.toNat : Int) * 256 % 4294967296 + (c.toNat : Int) % 4294967296) = (((x <<< 8 ||| BitVec.ofNat 32 c.toNat)).toNat : Int) := by
  rw [show (c.toNat : Int) % 4294967296 = (c.toNat : Int) by have := c.toNat_lt; omega, ← ofU8, show (256 : Int) = ((2 ^ 8 : Nat) : Int) from rfl, shlW, addWr, sum_byte]
section
variable {P : Program}
theorem run_storeAt_cell2 (w : World) (b o : Nat) (ty : TypeId) (v : Value) (ht : w.there b o 1) (hi : (P.info? ty).map (·.size) = some 1) (hv : v.cells = #[v]) (h1 : v.oneCell' = true) :
    (Instr.storeAt ty (.pointer (some ⟨b, o, none⟩)) v).run P w = .ok () (w.setCell ⟨b, o, none⟩ v) := by
  have := run_storeCells_cells (P := P) b o [v] 0 w (fun j hj => by simpa using (ht j (by simpa using hj)).1) (fun j hj => by simpa using (ht j (by simpa using hj)).2)
    (fun x hx => by obtain rfl := List.mem_singleton.1 hx; exact h1)
  cases hq : P.info? ty with
  | none => simp [hq] at hi
  | some i =>
    have hs : i.size = 1 := by simpa [hq] using hi
    simp only [Nat.add_zero] at this
    have e1 : w.setCells b o [v] = w.setCell ⟨b, o, none⟩ v := rfl
    rw [e1] at this
    simp [Instr.storeAt, Instr.sureAddr, storeVar, sizeOf, typeInfo, hq, hv, hs, this]
theorem wp_store_cell2 {op : Oper} {a : Act} {w : World} {K : Act → World → Prop} {Q : Exit → Act → World → Prop} (ty : TypeId) (x y : Operand) (ho : op.op = .store ty x y)
    (b o : Nat) (v : Value) (hx : a.eval x = .pointer (some ⟨b, o, none⟩)) (hy : a.eval y = v)
    (ht : w.there b o 1) (hi : (P.info? ty).map (·.size) = some 1) (hv : v.cells = #[v]) (h1 : v.oneCell' = true)
    (h : K (a.put op.dst undef) (w.setCell ⟨b, o, none⟩ v)) : op.wp P a w K Q := by
  unfold Oper.wp execOp
  simp only [ho, hx, hy, Sem.run_bind, Sem.run_pure, run_storeAt_cell2 w b o ty v ht hi hv h1, Result.andThen_ok]
  exact h
end
theorem there_cell {w : World} {b i : Nat} {cs : Array Value} {t : TypeId} (h : w.heap[b]? = some (.cells cs t (0, 0))) (hi : i < cs.size) : w.there b i 1 := by
  intro j hj
  obtain rfl : j = 0 := by omega
  exact ⟨by rw [cell_blk (i := i + 0) (v := cs[i]) h (by simp [hi])]; rfl, frozen_blk h⟩
theorem sizeT {x y : Nat} (h : x = y) : x = y := h

set_option maxRecDepth 100000 in
set_option maxHeartbeats 20000000 in
theorem rblock_any (s : H8) (bl : List UInt8) (v : Value) (w : World) (hl : bl.length = 64) (hs : Sl w 1 encU v bl) :
    Calls Try.prog 77 #[.agg (rowW s.l), v] w fun e w' => e = .returned (.agg (rowW (turn8 s bl).l)) ∧ Below w.heap.size w w' := by
  obtain ⟨vb, vo, cap, rfl, hm1, hm2, hc⟩ := hs.open (by intro h; rw [h] at hl; simp at hl)
  obtain ⟨n₀, hn₀⟩ : ∃ n, w.heap.size = n := ⟨_, rfl⟩
  obtain ⟨nw, hnw⟩ : ∃ n, n₀ + 1 + 1 = n := ⟨_, rfl⟩
  have hnw1 : n₀ + 1 < nw := by omega
  have hvb : vb < n₀ := by
    obtain ⟨c, hc0⟩ : ∃ c, bl[0]? = some c := ⟨_, List.getElem?_eq_getElem (by omega)⟩
    have h0 := rangeAt_one (hc 0 c hc0)
    rw [← hn₀]; exact World.block_lt_of_cell? w _ h0
  rw [hl] at hm1 hs ⊢
  clear hc hm1 hm2
  have cT := hid (fun (x : W32) (n : Nat) (W : World) (h : n = 2 ∨ n = 6 ∨ n = 7 ∨ n = 11 ∨ n = 13 ∨ n = 17 ∨ n = 18 ∨ n = 19 ∨ n = 22 ∨ n = 25) => rturn_any x n h W)
  unfold vW at cT
  rw [rowW_l]
  go_enter Try.func77, Try.ntmps77
  go_upto_region 2 with (fail)
  obtain ⟨W1, hW1⟩ : ∃ W : World, W = ((w.alloc (.cells #[.int .u32 (s.a.toNat : Int), .int .u32 (s.b.toNat : Int), .int .u32 (s.c.toNat : Int), .int .u32 (s.d.toNat : Int), .int .u32 (s.e.toNat : Int), .int .u32 (s.f.toNat : Int), .int .u32 (s.g.toNat : Int), .int .u32 (s.h.toNat : Int)] 114)).alloc (.cells #[.int .u32 0, .int .u32 0, .int .u32 0, .int .u32 0, .int .u32 0, .int .u32 0, .int .u32 0, .int .u32 0] 114)).alloc (.cells #[.int .u32 0, .int .u32 0, .int .u32 0, .int .u32 0, .int .u32 0, .int .u32 0, .int .u32 0, .int .u32 0, .int .u32 0, .int .u32 0, .int .u32 0, .int .u32 0, .int .u32 0, .int .u32 0, .int .u32 0, .int .u32 0, .int .u32 0, .int .u32 0, .int .u32 0, .int .u32 0, .int .u32 0, .int .u32 0, .int .u32 0, .int .u32 0, .int .u32 0, .int .u32 0, .int .u32 0, .int .u32 0, .int .u32 0, .int .u32 0, .int .u32 0, .int .u32 0, .int .u32 0, .int .u32 0, .int .u32 0, .int .u32 0, .int .u32 0, .int .u32 0, .int .u32 0, .int .u32 0, .int .u32 0, .int .u32 0, .int .u32 0, .int .u32 0, .int .u32 0, .int .u32 0, .int .u32 0, .int .u32 0, .int .u32 0, .int .u32 0, .int .u32 0, .int .u32 0, .int .u32 0, .int .u32 0, .int .u32 0, .int .u32 0, .int .u32 0, .int .u32 0, .int .u32 0, .int .u32 0, .int .u32 0, .int .u32 0, .int .u32 0, .int .u32 0] 118) := ⟨_, rfl⟩
  have hz : (w.alloc (.cells #[.int .u32 (s.a.toNat : Int), .int .u32 (s.b.toNat : Int), .int .u32 (s.c.toNat : Int), .int .u32 (s.d.toNat : Int), .int .u32 (s.e.toNat : Int), .int .u32 (s.f.toNat : Int), .int .u32 (s.g.toNat : Int), .int .u32 (s.h.toNat : Int)] 114)).heap.size = n₀ + 1 := by rw [World.size_alloc, hn₀]
  have hz2 : ((w.alloc (.cells #[.int .u32 (s.a.toNat : Int), .int .u32 (s.b.toNat : Int), .int .u32 (s.c.toNat : Int), .int .u32 (s.d.toNat : Int), .int .u32 (s.e.toNat : Int), .int .u32 (s.f.toNat : Int), .int .u32 (s.g.toNat : Int), .int .u32 (s.h.toNat : Int)] 114)).alloc (.cells #[.int .u32 0, .int .u32 0, .int .u32 0, .int .u32 0, .int .u32 0, .int .u32 0, .int .u32 0, .int .u32 0] 114)).heap.size = nw := by rw [World.size_alloc, hz, hnw]
  have a0 : W1.heap[n₀]? = some (.cells (rowW s.l) 114 (0, 0)) := by
    rw [hW1]
    refine (Kept.alloc 0 _ _).same _ _ ((Kept.alloc 0 _ _).same _ _ ?_ (.inl rfl)) (.inl rfl)
    rw [← hn₀]; exact World.alloc_heap_new w _
  have a1 : W1.heap[n₀ + 1]? = some (.cells #[.int .u32 0, .int .u32 0, .int .u32 0, .int .u32 0, .int .u32 0, .int .u32 0, .int .u32 0, .int .u32 0] 114 (0, 0)) := by
    rw [hW1]
    refine (Kept.alloc 0 _ _).same _ _ ?_ (.inl rfl)
    rw [← hz]; exact World.alloc_heap_new _ _
  have a2 : W1.heap[nw]? = some (.cells (rowW (schedW bl 0)) 118 (0, 0)) := by
    rw [hW1, ← hz2, zero64_is]; exact World.alloc_heap_new _ _
  have B1 : Below n₀ w W1 := by rw [hW1, ← hn₀]; exact (((Below.refl _ w).alloc (Nat.le_refl _) _).alloc (by simp) _).alloc (by simp; omega) _
  have s1 : Sl W1 1 encU (.slice (some ⟨vb, vo, none⟩) 64 cap) bl := by rw [hW1]; exact (Kept.alloc 0 _ _).sl ((Kept.alloc 0 _ _).sl ((Kept.alloc 0 _ _).sl hs))
  rw [← hW1]
  clear hW1 hz hz2 hs
  try simp only [hn₀, hnw]
  replace hnw := hid hnw
  go_wp2_with (fail)
  go_loopw [6] (fun iv wr => ∃ t : Nat, t ≤ 64 ∧ iv = .int .i64 t ∧ wr.heap[n₀]? = some (.cells (rowW s.l) 114 (0, 0)) ∧ wr.heap[n₀ + 1]? = some (.cells #[.int .u32 0, .int .u32 0, .int .u32 0, .int .u32 0, .int .u32 0, .int .u32 0, .int .u32 0, .int .u32 0] 114 (0, 0)) ∧ wr.heap[nw]? = some (.cells (rowW (schedW bl t)) 118 (0, 0)) ∧ Sl wr 1 encU (.slice (some ⟨vb, vo, none⟩) 64 cap) bl ∧ Below n₀ w wr) (fun iv _ => 64 - (RowKit.intOf iv).toNat)
  case atStart => exact ⟨0, Nat.zero_le _, rfl, a0, a1, a2, s1, B1⟩
  case round =>
    obtain ⟨t, ht, rfl, g0, g1, g2, gs, hB⟩ := hrel
    clear a0 a1 a2 s1 B1
    by_cases ht6 : t < 64
    · have htI : (t : Int) < 64 := by omega
      by_cases ht1 : t < 16
      · have ht1I : (t : Int) < 16 := by omega
        have hsc : schedW bl (t + 1) = (schedW bl t).set t (wordK bl t 4) := by rw [schedW, if_pos ht1]
        have h0w : (schedW bl t).set t (wordK bl t 0) = schedW bl t := by
          have h0 := schedW_zero bl t t (Nat.le_refl _) ht6
          obtain ⟨h1, h2⟩ := List.getElem?_eq_some_iff.1 h0
          rw [show wordK bl t 0 = 0 by simp [wordK], ← h2, List.set_getElem_self]
        have hw4 : IntKind.i64.wrap (4 * (t : Int)) = 4 * (t : Int) := by rw [IntKind.wrap_i64]; omega
        replace hsc := hid hsc
        replace h0w := hid h0w
        go_wp2_with (fail)
        go_loopw [7] (fun jv wr => ∃ k : Nat, k ≤ 4 ∧ jv = .int .i64 k ∧ wr.heap[n₀]? = some (.cells (rowW s.l) 114 (0, 0)) ∧ wr.heap[n₀ + 1]? = some (.cells #[.int .u32 0, .int .u32 0, .int .u32 0, .int .u32 0, .int .u32 0, .int .u32 0, .int .u32 0, .int .u32 0] 114 (0, 0)) ∧ wr.heap[nw]? = some (.cells (rowW ((schedW bl t).set t (wordK bl t k))) 118 (0, 0)) ∧ Sl wr 1 encU (.slice (some ⟨vb, vo, none⟩) 64 cap) bl ∧ Below n₀ w wr) (fun jv _ => 4 - (RowKit.intOf jv).toNat)
        case atStart => exact ⟨0, Nat.zero_le _, rfl, g0, g1, by rw [h0w.out]; exact g2, gs, hB⟩
        case round =>
          obtain ⟨k, hk, rfl, q0, q1, q2, qs, qB⟩ := hrel
          clear g0 g1 g2 gs hB
          by_cases hk4 : k < 4
          · have hkI : (k : Int) < 4 := by omega
            obtain ⟨c, hcc⟩ : ∃ c, bl[4 * t + k]? = some c := ⟨_, List.getElem?_eq_getElem (by omega)⟩
            have hws := wordK_succ hcc
            obtain ⟨x, hx⟩ : ∃ x, wordK bl t k = x := ⟨_, rfl⟩
            obtain ⟨y, hy⟩ : ∃ y, wordK bl t (k + 1) = y := ⟨_, rfl⟩
            rw [hx, hy] at hws
            rw [hx] at q2
            have hor := sumU x c
            rw [← hws] at hor
            have hor2 : ((x.toNat : Int) * 256 % 4294967296 + (c.toNat : Int) % 4294967296) % 4294967296 = (y.toNat : Int) := by have h9 := hor; simpa [IntKind.wrap, IntKind.bits, IntKind.signed] using h9
            obtain ⟨J, hJ⟩ : ∃ j, 4 * t + k = j := ⟨_, rfl⟩
            have hw5 : IntKind.i64.wrap (4 * (t : Int) + (k : Int)) = (J : Int) := by rw [IntKind.wrap_i64]; omega
            have hJ6 : (J : Int) < 64 := by omega
            obtain ⟨b9, o9, c9, he9, -, -, hc9⟩ := qs.open (by intro h; rw [h] at hl; simp at hl)
            simp only [Value.slice.injEq, Option.some.injEq, Addr.mk.injEq, and_true] at he9
            obtain ⟨⟨rfl, rfl⟩, -, rfl⟩ := he9
            have cb : wr.cell? ⟨vb, vo + J, none⟩ = some (.int .u8 c.toNat) := by
              have := rangeAt_one (hc9 _ c hcc)
              rwa [Nat.mul_one, hJ] at this
            have cx : wr.cell? ⟨nw, t, none⟩ = some (.int .u32 (x.toNat : Int)) := cell_blk q2 (rowW_at (by rw [List.getElem?_set_self (by rw [schedW_len]; exact ht6)]))
            have fx := frozen_blk q2 (i := t)
            have q2' := setCell_blk (i := t) (x := .int .u32 (y.toNat : Int)) q2
            rw [rowW_set, List.set_set] at q2'
            have q0' := (setCell_off (b := nw) (i := t) (x := .int .u32 (y.toNat : Int)) (show n₀ ≠ nw by omega)).trans q0
            have q1' := (setCell_off (b := nw) (i := t) (x := .int .u32 (y.toNat : Int)) (show n₀ + 1 ≠ nw by omega)).trans q1
            have qB' := (qB.drewN 1).setCell (p := ⟨nw, t, none⟩) (show n₀ ≤ nw by omega) (.int .u32 (y.toNat : Int))
            have qs' : Sl (wr.drew.setCell ⟨nw, t, none⟩ (.int .u32 (y.toNat : Int))) 1 encU (.slice (some ⟨vb, vo, none⟩) 64 cap) bl := ((Upd.refl (show wr.drew.heap[nw]? = _ from q2)).set (i := t) (.int .u32 (y.toNat : Int))).sl (fun a h => by cases h; show vb ≠ nw; omega) ((Kept.drewN 0 wr 1).sl qs)
            clear hc9 hcc hws q0 q1 q2 qs qB
            replace hJ := hid hJ
            replace hx := hid hx
            replace hy := hid hy
            go_upto_region 9 with (fail)
            refine wp_region_any (by kernel_rfl) ?_
            try (change wpAny _ _ _ _ _ _ _ (World.drew _))
            refine wpAny_take (i := 0) (oi := ⟨some 27, _, _, _, _, _⟩) (v := ?_) rfl (by kernel_rfl) (by kernel_rfl) (by kernel_rfl) (fun _ _ _ h => h) (Or.inl ⟨by rfl, ?_⟩) ?_
            rotate_left
            · intro w; go_simp <;> with_reducible rfl
            simp only [Act.put, List.setIfInBounds_toArray, List.set_cons_zero, List.set_cons_succ]
            refine wpAny_take (i := 1) (oi := ⟨some 28, _, _, _, _, _⟩) (v := ?_) rfl (by kernel_rfl) (by kernel_rfl) (by kernel_rfl) (fun _ _ _ h => h) (Or.inl ⟨by rfl, ?_⟩) ?_
            rotate_left
            · intro w; go_simp <;> with_reducible rfl
            simp only [Act.put, List.setIfInBounds_toArray, List.set_cons_zero, List.set_cons_succ]
            refine wpAny_take (i := 2) (oi := ⟨some 29, _, _, _, _, _⟩) (v := ?_) rfl (by kernel_rfl) (by kernel_rfl) (by kernel_rfl) (fun _ _ _ h => h) (Or.inl ⟨by rfl, ?_⟩) ?_
            rotate_left
            · intro w; go_simp <;> with_reducible rfl
            simp only [Act.put, List.setIfInBounds_toArray, List.set_cons_zero, List.set_cons_succ]
            refine wpAny_take (i := 5) (oi := ⟨some 32, _, _, _, _, _⟩) (v := ?_) rfl (by kernel_rfl) (by kernel_rfl) (by kernel_rfl) (fun _ _ _ h => h) (Or.inl ⟨by rfl, ?_⟩) ?_
            rotate_left
            · intro w; go_simp <;> with_reducible rfl
            simp only [Act.put, List.setIfInBounds_toArray, List.set_cons_zero, List.set_cons_succ]
            refine wpAny_take (i := 6) (oi := ⟨some 33, _, _, _, _, _⟩) (v := ?_) rfl (by kernel_rfl) (by kernel_rfl) (by kernel_rfl) (fun _ _ _ h => h) (Or.inl ⟨by rfl, ?_⟩) ?_
            rotate_left
            · intro w; go_simp <;> with_reducible rfl
            simp only [Act.put, List.setIfInBounds_toArray, List.set_cons_zero, List.set_cons_succ]
            refine wpAny_take (i := 7) (oi := ⟨some 34, _, _, _, _, _⟩) (v := ?_) rfl (by kernel_rfl) (by kernel_rfl) (by kernel_rfl) (fun _ _ _ h => h) (Or.inl ⟨by rfl, ?_⟩) ?_
            rotate_left
            · intro w; go_simp <;> with_reducible rfl
            simp only [Act.put, List.setIfInBounds_toArray, List.set_cons_zero, List.set_cons_succ]
            refine wpAny_take (i := 8) (oi := ⟨some 35, _, _, _, _, _⟩) (v := ?_) rfl (by kernel_rfl) (by kernel_rfl) (by kernel_rfl) (fun _ _ _ h => h) (Or.inl ⟨by rfl, ?_⟩) ?_
            rotate_left
            · intro w; go_simp <;> with_reducible rfl
            simp only [Act.put, List.setIfInBounds_toArray, List.set_cons_zero, List.set_cons_succ]
            refine wpAny_take (i := 9) (oi := ⟨some 36, _, _, _, _, _⟩) (v := ?_) rfl (by kernel_rfl) (by kernel_rfl) (by kernel_rfl) (fun _ _ _ h => h) (Or.inl ⟨by rfl, ?_⟩) ?_
            rotate_left
            · intro w; go_simp <;> with_reducible rfl
            simp only [Act.put, List.setIfInBounds_toArray, List.set_cons_zero, List.set_cons_succ]
            refine wpAny_take (i := 10) (oi := ⟨some 37, _, _, _, _, _⟩) (v := ?_) rfl (by kernel_rfl) (by kernel_rfl) (by kernel_rfl) (fun _ _ _ h => h) (Or.inl ⟨by rfl, ?_⟩) ?_
            rotate_left
            · intro w; go_simp <;> with_reducible rfl
            simp only [Act.put, List.setIfInBounds_toArray, List.set_cons_zero, List.set_cons_succ]
            refine wpAny_ready (rs := [3, 11]) (by kernel_rfl) (by simp) ?_
            refine AllReady.cons (o := ⟨some 30, _, _, _, _, _⟩) rfl (fun K hK => ?_) ?_
            · go_simp
              first | refine hK _ _ ?_ | refine ⟨trivial, hK _ _ ?_⟩ | refine ⟨fun _ _ => trivial, hK _ _ ?_⟩
              clear hK K
              refine wpAny_take (i := 4) (oi := ⟨some 31, _, _, _, _, _⟩) (v := ?_) rfl (by kernel_rfl) (by kernel_rfl) (by kernel_rfl) (fun _ _ _ h => h) (Or.inl ⟨by rfl, ?_⟩) ?_
              rotate_left
              · intro w; go_simp <;> with_reducible rfl
              simp only [Act.put, List.setIfInBounds_toArray, List.set_cons_zero, List.set_cons_succ]
              refine wpAny_ready (rs := [11]) (by kernel_rfl) (by simp) ?_
              refine AllReady.cons (o := ⟨some 38, _, _, _, _, _⟩) rfl (fun K hK => ?_) AllReady.nil
              go_simp
              first | refine hK _ _ ?_ | refine ⟨trivial, hK _ _ ?_⟩ | refine ⟨fun _ _ => trivial, hK _ _ ?_⟩
              clear hK K
              refine wpAny_take (i := 12) (oi := ⟨some 39, _, _, _, _, _⟩) (v := ?_) rfl (by kernel_rfl) (by kernel_rfl) (by kernel_rfl) (fun _ _ _ h => h) (Or.inl ⟨by rfl, ?_⟩) ?_
              rotate_left
              · intro w; go_simp <;> with_reducible rfl
              simp only [Act.put, List.setIfInBounds_toArray, List.set_cons_zero, List.set_cons_succ]
              refine wpAny_take (i := 13) (oi := ⟨some 40, _, _, _, _, _⟩) (v := ?_) rfl (by kernel_rfl) (by kernel_rfl) (by kernel_rfl) (fun _ _ _ h => h) (Or.inl ⟨by rfl, ?_⟩) ?_
              rotate_left
              · intro w; go_simp <;> with_reducible rfl
              simp only [Act.put, List.setIfInBounds_toArray, List.set_cons_zero, List.set_cons_succ]
              refine wpAny_take (i := 14) (oi := ⟨some 41, _, _, _, _, _⟩) (v := ?_) rfl (by kernel_rfl) (by kernel_rfl) (by kernel_rfl) (fun _ _ _ h => h) (Or.inl ⟨by rfl, ?_⟩) ?_
              rotate_left
              · intro w; go_simp <;> with_reducible rfl
              simp only [Act.put, List.setIfInBounds_toArray, List.set_cons_zero, List.set_cons_succ]
              refine wpAny_ready (rs := [15]) (by kernel_rfl) (by simp) ?_
              refine AllReady.cons (o := ⟨none, _, _, _, _, _⟩) rfl (fun K hK => ?_) AllReady.nil
              go_simp
              first | refine hK _ _ ?_ | refine ⟨trivial, hK _ _ ?_⟩ | refine ⟨fun _ _ => trivial, hK _ _ ?_⟩
              clear hK K
              refine wpAny_done (by kernel_rfl) ?_ _
              go_wp2_with (fail)
              (try simp only [hor2])
              exact ⟨⟨k + 1, by omega, by go_num, q0', q1', by rw [hy.out]; exact q2', qs', qB'⟩, by simp [RowKit.intOf]; omega⟩
            refine AllReady.cons (o := ⟨some 38, _, _, _, _, _⟩) rfl (fun K hK => ?_) AllReady.nil
            go_simp
            first | refine hK _ _ ?_ | refine ⟨trivial, hK _ _ ?_⟩ | refine ⟨fun _ _ => trivial, hK _ _ ?_⟩
            clear hK K
            refine wpAny_take (i := 12) (oi := ⟨some 39, _, _, _, _, _⟩) (v := ?_) rfl (by kernel_rfl) (by kernel_rfl) (by kernel_rfl) (fun _ _ _ h => h) (Or.inl ⟨by rfl, ?_⟩) ?_
            rotate_left
            · intro w; go_simp <;> with_reducible rfl
            simp only [Act.put, List.setIfInBounds_toArray, List.set_cons_zero, List.set_cons_succ]
            refine wpAny_ready (rs := [3]) (by kernel_rfl) (by simp) ?_
            refine AllReady.cons (o := ⟨some 30, _, _, _, _, _⟩) rfl (fun K hK => ?_) AllReady.nil
            go_simp
            first | refine hK _ _ ?_ | refine ⟨trivial, hK _ _ ?_⟩ | refine ⟨fun _ _ => trivial, hK _ _ ?_⟩
            clear hK K
            refine wpAny_take (i := 4) (oi := ⟨some 31, _, _, _, _, _⟩) (v := ?_) rfl (by kernel_rfl) (by kernel_rfl) (by kernel_rfl) (fun _ _ _ h => h) (Or.inl ⟨by rfl, ?_⟩) ?_
            rotate_left
            · intro w; go_simp <;> with_reducible rfl
            simp only [Act.put, List.setIfInBounds_toArray, List.set_cons_zero, List.set_cons_succ]
            refine wpAny_take (i := 13) (oi := ⟨some 40, _, _, _, _, _⟩) (v := ?_) rfl (by kernel_rfl) (by kernel_rfl) (by kernel_rfl) (fun _ _ _ h => h) (Or.inl ⟨by rfl, ?_⟩) ?_
            rotate_left
            · intro w; go_simp <;> with_reducible rfl
            simp only [Act.put, List.setIfInBounds_toArray, List.set_cons_zero, List.set_cons_succ]
            refine wpAny_take (i := 14) (oi := ⟨some 41, _, _, _, _, _⟩) (v := ?_) rfl (by kernel_rfl) (by kernel_rfl) (by kernel_rfl) (fun _ _ _ h => h) (Or.inl ⟨by rfl, ?_⟩) ?_
            rotate_left
            · intro w; go_simp <;> with_reducible rfl
            simp only [Act.put, List.setIfInBounds_toArray, List.set_cons_zero, List.set_cons_succ]
            refine wpAny_ready (rs := [15]) (by kernel_rfl) (by simp) ?_
            refine AllReady.cons (o := ⟨none, _, _, _, _, _⟩) rfl (fun K hK => ?_) AllReady.nil
            go_simp
            first | refine hK _ _ ?_ | refine ⟨trivial, hK _ _ ?_⟩ | refine ⟨fun _ _ => trivial, hK _ _ ?_⟩
            clear hK K
            refine wpAny_done (by kernel_rfl) ?_ _
            go_wp2_with (fail)
            (try simp only [hor2])
            exact ⟨⟨k + 1, by omega, by go_num, q0', q1', by rw [hy.out]; exact q2', qs', qB'⟩, by simp [RowKit.intOf]; omega⟩
          · obtain rfl : k = 4 := by omega
            go_wp2_with (fail)
            exact ⟨⟨t + 1, by omega, by go_num, q0, q1, by rw [hsc.out]; exact q2, qs, qB⟩, by simp [RowKit.intOf]; omega⟩
      · have ht2 : 16 ≤ t := by omega
        have ht2I : ¬ (t : Int) < 16 := by omega
        have hsc : schedW bl (t + 1) = (schedW bl t).set t (nextW (schedW bl t) t) := by rw [schedW, if_neg ht1]
        obtain ⟨l, hll⟩ : ∃ l, schedW bl t = l := ⟨_, rfl⟩
        have hl6 : l.length = 64 := by rw [← hll, schedW_len]
        rw [hll] at hsc g2
        obtain ⟨i2, hi2⟩ : ∃ i, t - 2 = i := ⟨_, rfl⟩
        obtain ⟨i7, hi7⟩ : ∃ i, t - 7 = i := ⟨_, rfl⟩
        obtain ⟨i15, hi15⟩ : ∃ i, t - 15 = i := ⟨_, rfl⟩
        obtain ⟨i16, hi16⟩ : ∃ i, t - 16 = i := ⟨_, rfl⟩
        obtain ⟨x2, hx2⟩ : ∃ x, l[i2]? = some x := ⟨_, List.getElem?_eq_getElem (by omega)⟩
        obtain ⟨x7, hx7⟩ : ∃ x, l[i7]? = some x := ⟨_, List.getElem?_eq_getElem (by omega)⟩
        obtain ⟨x15, hx15⟩ : ∃ x, l[i15]? = some x := ⟨_, List.getElem?_eq_getElem (by omega)⟩
        obtain ⟨x16, hx16⟩ : ∃ x, l[i16]? = some x := ⟨_, List.getElem?_eq_getElem (by omega)⟩
        have hnx := next_is l t
        have gd : ∀ {i : Nat} {x : W32}, l[i]? = some x → l.getD i 0 = x := fun h => by rw [List.getD_eq_getElem?_getD, h]; rfl
        rw [hi2, hi7, hi15, hi16, gd hx2, gd hx7, gd hx15, gd hx16] at hnx
        obtain ⟨A1, hA1⟩ : ∃ x : W32, x16 + x7 = x := ⟨_, rfl⟩
        obtain ⟨R7, hR7⟩ : ∃ x : W32, rotr x15 7 = x := ⟨_, rfl⟩
        obtain ⟨R18, hR18⟩ : ∃ x : W32, rotr x15 18 = x := ⟨_, rfl⟩
        obtain ⟨B1, hB1⟩ : ∃ x : W32, R7 ^^^ R18 = x := ⟨_, rfl⟩
        obtain ⟨H3, hH3⟩ : ∃ x : W32, x15 >>> 3 = x := ⟨_, rfl⟩
        obtain ⟨B2, hB2⟩ : ∃ x : W32, B1 ^^^ H3 = x := ⟨_, rfl⟩
        obtain ⟨A2, hA2⟩ : ∃ x : W32, A1 + B2 = x := ⟨_, rfl⟩
        obtain ⟨R17, hR17⟩ : ∃ x : W32, rotr x2 17 = x := ⟨_, rfl⟩
        obtain ⟨R19, hR19⟩ : ∃ x : W32, rotr x2 19 = x := ⟨_, rfl⟩
        obtain ⟨C1, hC1⟩ : ∃ x : W32, R17 ^^^ R19 = x := ⟨_, rfl⟩
        obtain ⟨H10, hH10⟩ : ∃ x : W32, x2 >>> 10 = x := ⟨_, rfl⟩
        obtain ⟨C2, hC2⟩ : ∃ x : W32, C1 ^^^ H10 = x := ⟨_, rfl⟩
        obtain ⟨C3, hC3⟩ : ∃ x : W32, A2 + C2 = x := ⟨_, rfl⟩
        have l1 : IntKind.u32.wrap ((x16.toNat : Int) + (x7.toNat : Int)) = (A1.toNat : Int) := by rw [← hA1]; exact addWr _ _
        have l2 : bits .xor .u32 (R7.toNat : Int) (R18.toNat : Int) = (B1.toNat : Int) := by rw [← hB1]; exact bits_xorW _ _
        have l3 : (x15.toNat : Int) / 8 = (H3.toNat : Int) := by rw [← hH3]; exact shrW _ 3
        have l4 : bits .xor .u32 (B1.toNat : Int) (H3.toNat : Int) = (B2.toNat : Int) := by rw [← hB2]; exact bits_xorW _ _
        have l5 : IntKind.u32.wrap ((A1.toNat : Int) + (B2.toNat : Int)) = (A2.toNat : Int) := by rw [← hA2]; exact addWr _ _
        have l6 : bits .xor .u32 (R17.toNat : Int) (R19.toNat : Int) = (C1.toNat : Int) := by rw [← hC1]; exact bits_xorW _ _
        have l7 : (x2.toNat : Int) / 1024 = (H10.toNat : Int) := by rw [← hH10]; exact shrW _ 10
        have l8 : bits .xor .u32 (C1.toNat : Int) (H10.toNat : Int) = (C2.toNat : Int) := by rw [← hC2]; exact bits_xorW _ _
        have l9 : IntKind.u32.wrap ((A2.toNat : Int) + (C2.toNat : Int)) = (C3.toNat : Int) := by rw [← hC3]; exact addWr _ _
        rw [hA1, hR7, hR18, hB1, hH3, hB2, hA2, hR17, hR19, hC1, hH10, hC2, hC3] at hnx
        rw [← hnx] at hsc
        have w2 : IntKind.i64.wrap ((t : Int) - 2) = (i2 : Int) := by rw [IntKind.wrap_i64]; omega
        have w7 : IntKind.i64.wrap ((t : Int) - 7) = (i7 : Int) := by rw [IntKind.wrap_i64]; omega
        have w15 : IntKind.i64.wrap ((t : Int) - 15) = (i15 : Int) := by rw [IntKind.wrap_i64]; omega
        have w16 : IntKind.i64.wrap ((t : Int) - 16) = (i16 : Int) := by rw [IntKind.wrap_i64]; omega
        have p2 : (i2 : Int) < 64 := by omega
        have p7 : (i7 : Int) < 64 := by omega
        have p15 : (i15 : Int) < 64 := by omega
        have p16 : (i16 : Int) < 64 := by omega
        have d2 : wr.drew.heap[nw]? = some (.cells (rowW l) 118 (0, 0)) := g2
        have st10 : (fun W => W.cell? ⟨nw, i2, none⟩ = some (.int .u32 (x2.toNat : Int)) ∧ W.cell? ⟨nw, i15, none⟩ = some (.int .u32 (x15.toNat : Int))) wr.drew := ⟨cell_blk d2 (rowW_at hx2), cell_blk d2 (rowW_at hx15)⟩
        have st11 : (fun W => W.cell? ⟨nw, i7, none⟩ = some (.int .u32 (x7.toNat : Int)) ∧ W.cell? ⟨nw, i16, none⟩ = some (.int .u32 (x16.toNat : Int))) wr.drew.drew := ⟨cell_blk d2 (rowW_at hx7), cell_blk d2 (rowW_at hx16)⟩
        have ht11 : wr.drew.drew.there (nw) t 1 := there_cell (show wr.drew.drew.heap[nw]? = _ from g2) (by rw [rowW_size, hl6]; exact ht6)
        have q2' := setCell_blk (i := t) (x := .int .u32 (C3.toNat : Int)) (show wr.drew.drew.heap[nw]? = _ from g2)
        rw [rowW_set] at q2'
        have q0' := (setCell_off (b := nw) (i := t) (x := .int .u32 (C3.toNat : Int)) (show n₀ ≠ nw by omega)).trans (show wr.drew.drew.heap[n₀]? = _ from g0)
        have q1' := (setCell_off (b := nw) (i := t) (x := .int .u32 (C3.toNat : Int)) (show n₀ + 1 ≠ nw by omega)).trans (show wr.drew.drew.heap[n₀ + 1]? = _ from g1)
        have qB' := ((hB.drewN 1).drewN 1).setCell (p := ⟨nw, t, none⟩) (show n₀ ≤ nw by omega) (.int .u32 (C3.toNat : Int))
        have qs' : Sl (wr.drew.drew.setCell ⟨nw, t, none⟩ (.int .u32 (C3.toNat : Int))) 1 encU (.slice (some ⟨vb, vo, none⟩) 64 cap) bl := ((Upd.refl (show wr.drew.drew.heap[nw]? = _ from g2)).set (i := t) (.int .u32 (C3.toNat : Int))).sl (fun a h => by cases h; show vb ≠ nw; omega) ((Kept.drewN 0 wr.drew 1).sl ((Kept.drewN 0 wr 1).sl gs))
        have st11' : (fun W => W.cell? ⟨nw, i7, none⟩ = some (.int .u32 (x7.toNat : Int)) ∧ W.cell? ⟨nw, i16, none⟩ = some (.int .u32 (x16.toNat : Int))) (wr.drew.drew.setCell ⟨nw, t, none⟩ (.int .u32 (C3.toNat : Int))) := ⟨cell_blk q2' (rowW_at (by rw [List.getElem?_set_ne (by omega)]; exact hx7)), cell_blk q2' (rowW_at (by rw [List.getElem?_set_ne (by omega)]; exact hx16))⟩
        have hx15r7 := hid hR7
        have hx15r18 := hid hR18
        have hx2r17 := hid hR17
        have hx2r19 := hid hR19
        replace hsc := hid hsc
        replace hll := hid hll
        replace hi2 := hid hi2
        replace hi7 := hid hi7
        replace hi15 := hid hi15
        replace hi16 := hid hi16
        clear d2 g0 g1 g2 gs hB hnx gd hx2 hx7 hx15 hx16 hA1 hR7 hR18 hB1 hH3 hB2 hA2 hR17 hR19 hC1 hH10 hC2 hC3
        go_upto_region 10 with (fail)
        refine wp_region_held_drew (S := (fun W => W.cell? ⟨nw, i2, none⟩ = some (.int .u32 (x2.toNat : Int)) ∧ W.cell? ⟨nw, i15, none⟩ = some (.int .u32 (x15.toNat : Int)))) (by kernel_rfl) st10 (fun hHeld => ?_)
        refine tkH 0 (some 42) ?_ rfl (Or.inl ⟨by rfl, ?_⟩) ?_; rotate_left
        · intro w hSw; (try dsimp only at hSw); go_simp <;> with_reducible rfl
        try simp only [Act.put, aS, aZ, aC]
        refine tkH 1 (some 43) ?_ rfl (Or.inl ⟨by rfl, ?_⟩) ?_; rotate_left
        · intro w hSw; (try dsimp only at hSw); go_simp <;> with_reducible rfl
        try simp only [Act.put, aS, aZ, aC]
        refine tkH 2 (some 44) ?_ rfl (Or.inl ⟨by rfl, ?_⟩) ?_; rotate_left
        · intro w hSw; (try dsimp only at hSw); go_simp <;> with_reducible rfl
        try simp only [Act.put, aS, aZ, aC]
        refine tkH 3 (some 45) ?_ rfl (Or.inl ⟨by rfl, ?_⟩) ?_; rotate_left
        · intro w hSw; (try dsimp only at hSw); go_simp <;> with_reducible rfl
        try simp only [Act.put, aS, aZ, aC]
        refine tkH 4 (some 46) ?_ rfl (Or.inl ⟨by rfl, ?_⟩) ?_; rotate_left
        · intro w hSw; (try dsimp only at hSw); go_simp <;> with_reducible rfl
        try simp only [Act.put, aS, aZ, aC]
        refine tkH 5 (some 47) ?_ rfl (Or.inl ⟨by rfl, ?_⟩) ?_; rotate_left
        · intro w hSw; (try dsimp only at hSw); go_simp <;> with_reducible rfl
        try simp only [Act.put, aS, aZ, aC]
        refine tkH 6 (some 48) ?_ rfl (Or.inl ⟨by rfl, ?_⟩) ?_; rotate_left
        · intro w hSw; (try dsimp only at hSw); go_simp <;> with_reducible rfl
        try simp only [Act.put, aS, aZ, aC]
        refine tkH 7 (some 49) ?_ rfl (Or.inl ⟨by rfl, ?_⟩) ?_; rotate_left
        · intro w hSw; (try dsimp only at hSw); go_simp <;> with_reducible rfl
        try simp only [Act.put, aS, aZ, aC]
        refine tkH 8 (some 8) ?_ rfl (Or.inl ⟨by rfl, ?_⟩) ?_; rotate_left
        · intro w hSw; (try dsimp only at hSw); go_simp <;> with_reducible rfl
        try simp only [Act.put, aS, aZ, aC]
        refine tkH 9 (some 9) ?_ rfl (Or.inl ⟨by rfl, ?_⟩) ?_; rotate_left
        · intro w hSw; (try dsimp only at hSw); go_simp <;> with_reducible rfl
        try simp only [Act.put, aS, aZ, aC]
        refine wpAnyH_done (by kernel_rfl) ?_ _
        skip
        clear hHeld st10
        go_upto_region 11 with (fail)
        refine wp_region_held_drew (S := (fun W => W.cell? ⟨nw, i7, none⟩ = some (.int .u32 (x7.toNat : Int)) ∧ W.cell? ⟨nw, i16, none⟩ = some (.int .u32 (x16.toNat : Int)))) (by kernel_rfl) st11 (fun hHeld => ?_)
        refine tkH 0 (some 50) ?_ rfl (Or.inl ⟨by rfl, ?_⟩) ?_; rotate_left
        · intro w hSw; (try dsimp only at hSw); go_simp <;> with_reducible rfl
        try simp only [Act.put, aS, aZ, aC]
        refine tkH 1 (some 51) ?_ rfl (Or.inl ⟨by rfl, ?_⟩) ?_; rotate_left
        · intro w hSw; (try dsimp only at hSw); go_simp <;> with_reducible rfl
        try simp only [Act.put, aS, aZ, aC]
        refine tkH 2 (some 52) ?_ rfl (Or.inl ⟨by rfl, ?_⟩) ?_; rotate_left
        · intro w hSw; (try dsimp only at hSw); go_simp <;> with_reducible rfl
        try simp only [Act.put, aS, aZ, aC]
        refine tkH 3 (some 53) ?_ rfl (Or.inl ⟨by rfl, ?_⟩) ?_; rotate_left
        · intro w hSw; (try dsimp only at hSw); go_simp <;> with_reducible rfl
        try simp only [Act.put, aS, aZ, aC]
        refine tkH 4 (some 54) ?_ rfl (Or.inl ⟨by rfl, ?_⟩) ?_; rotate_left
        · intro w hSw; (try dsimp only at hSw); go_simp <;> with_reducible rfl
        try simp only [Act.put, aS, aZ, aC]
        refine tkH 5 (some 55) ?_ rfl (Or.inl ⟨by rfl, ?_⟩) ?_; rotate_left
        · intro w hSw; (try dsimp only at hSw); go_simp <;> with_reducible rfl
        try simp only [Act.put, aS, aZ, aC]
        refine tkH 6 (some 56) ?_ rfl (Or.inl ⟨by rfl, ?_⟩) ?_; rotate_left
        · intro w hSw; (try dsimp only at hSw); go_simp <;> with_reducible rfl
        try simp only [Act.put, aS, aZ, aC]
        refine tkH 7 (some 57) ?_ rfl (Or.inl ⟨by rfl, ?_⟩) ?_; rotate_left
        · intro w hSw; (try dsimp only at hSw); go_simp <;> with_reducible rfl
        try simp only [Act.put, aS, aZ, aC]
        refine tkH 8 (some 58) ?_ rfl (Or.inl ⟨by rfl, ?_⟩) ?_; rotate_left
        · intro w hSw; (try dsimp only at hSw); go_simp <;> with_reducible rfl
        try simp only [Act.put, aS, aZ, aC]
        refine tkH 9 (some 59) ?_ rfl (Or.inl ⟨by rfl, ?_⟩) ?_; rotate_left
        · intro w hSw; (try dsimp only at hSw); go_simp <;> with_reducible rfl
        try simp only [Act.put, aS, aZ, aC]
        refine tkH 10 (some 60) ?_ rfl (Or.inl ⟨by rfl, ?_⟩) ?_; rotate_left
        · intro w hSw; (try dsimp only at hSw); go_simp <;> with_reducible rfl
        try simp only [Act.put, aS, aZ, aC]
        refine tkH 12 (some 62) ?_ rfl (Or.inl ⟨by rfl, ?_⟩) ?_; rotate_left
        · intro w hSw; (try dsimp only at hSw); go_simp <;> with_reducible rfl
        try simp only [Act.put, aS, aZ, aC]
        refine tkH 15 (some 65) ?_ rfl (Or.inl ⟨by rfl, ?_⟩) ?_; rotate_left
        · intro w hSw; (try dsimp only at hSw); go_simp <;> with_reducible rfl
        try simp only [Act.put, aS, aZ, aC]
        refine tkH 16 (some 66) ?_ rfl (Or.inl ⟨by rfl, ?_⟩) ?_; rotate_left
        · intro w hSw; (try dsimp only at hSw); go_simp <;> with_reducible rfl
        try simp only [Act.put, aS, aZ, aC]
        refine tkH 19 (some 69) ?_ rfl (Or.inl ⟨by rfl, ?_⟩) ?_; rotate_left
        · intro w hSw; (try dsimp only at hSw); go_simp <;> with_reducible rfl
        try simp only [Act.put, aS, aZ, aC]
        refine tkH 21 (some 71) ?_ rfl (Or.inl ⟨by rfl, ?_⟩) ?_; rotate_left
        · intro w hSw; (try dsimp only at hSw); go_simp <;> with_reducible rfl
        try simp only [Act.put, aS, aZ, aC]
        refine tkH 24 (some 74) ?_ rfl (Or.inl ⟨by rfl, ?_⟩) ?_; rotate_left
        · intro w hSw; (try dsimp only at hSw); go_simp <;> with_reducible rfl
        try simp only [Act.put, aS, aZ, aC]
        refine tkH 25 (some 75) ?_ rfl (Or.inl ⟨by rfl, ?_⟩) ?_; rotate_left
        · intro w hSw; (try dsimp only at hSw); go_simp <;> with_reducible rfl
        try simp only [Act.put, aS, aZ, aC]
        refine wpAnyH_ready (rs := [11]) (by kernel_rfl) (by simp) ?_
        refine AllReadyH.cons (o := ⟨some 61, _, _, _, _, _⟩) rfl (fun K hK => ?_) AllReadyH.nil
        go_simp
        refine (cT.out x15 7 _ (by simp)).mono ?_
        rintro e w' ⟨rfl, rfl⟩
        rw [hx15r7.out]
        refine hK.out _ _ (by assumption) (fun hHeld => ?_)
        clear hK K
        try simp only [Act.put, aS, aZ, aC]
        refine wpAnyH_ready (rs := [13]) (by kernel_rfl) (by simp) ?_
        refine AllReadyH.cons (o := ⟨some 63, _, _, _, _, _⟩) rfl (fun K hK => ?_) AllReadyH.nil
        go_simp
        refine (cT.out x15 18 _ (by simp)).mono ?_
        rintro e w' ⟨rfl, rfl⟩
        rw [hx15r18.out]
        refine hK.out _ _ (by assumption) (fun hHeld => ?_)
        clear hK K
        try simp only [Act.put, aS, aZ, aC]
        refine tkH 14 (some 64) ?_ rfl (Or.inl ⟨by rfl, ?_⟩) ?_; rotate_left
        · intro w hSw; (try dsimp only at hSw); go_simp <;> with_reducible rfl
        try simp only [Act.put, aS, aZ, aC]
        refine tkH 17 (some 67) ?_ rfl (Or.inl ⟨by rfl, ?_⟩) ?_; rotate_left
        · intro w hSw; (try dsimp only at hSw); go_simp <;> with_reducible rfl
        try simp only [Act.put, aS, aZ, aC]
        refine tkH 18 (some 68) ?_ rfl (Or.inl ⟨by rfl, ?_⟩) ?_; rotate_left
        · intro w hSw; (try dsimp only at hSw); go_simp <;> with_reducible rfl
        try simp only [Act.put, aS, aZ, aC]
        refine wpAnyH_ready (rs := [20]) (by kernel_rfl) (by simp) ?_
        refine AllReadyH.cons (o := ⟨some 70, _, _, _, _, _⟩) rfl (fun K hK => ?_) AllReadyH.nil
        go_simp
        refine (cT.out x2 17 _ (by simp)).mono ?_
        rintro e w' ⟨rfl, rfl⟩
        rw [hx2r17.out]
        refine hK.out _ _ (by assumption) (fun hHeld => ?_)
        clear hK K
        try simp only [Act.put, aS, aZ, aC]
        refine wpAnyH_ready (rs := [22]) (by kernel_rfl) (by simp) ?_
        refine AllReadyH.cons (o := ⟨some 72, _, _, _, _, _⟩) rfl (fun K hK => ?_) AllReadyH.nil
        go_simp
        refine (cT.out x2 19 _ (by simp)).mono ?_
        rintro e w' ⟨rfl, rfl⟩
        rw [hx2r19.out]
        refine hK.out _ _ (by assumption) (fun hHeld => ?_)
        clear hK K
        try simp only [Act.put, aS, aZ, aC]
        refine tkH 23 (some 73) ?_ rfl (Or.inl ⟨by rfl, ?_⟩) ?_; rotate_left
        · intro w hSw; (try dsimp only at hSw); go_simp <;> with_reducible rfl
        try simp only [Act.put, aS, aZ, aC]
        refine tkH 26 (some 76) ?_ rfl (Or.inl ⟨by rfl, ?_⟩) ?_; rotate_left
        · intro w hSw; (try dsimp only at hSw); go_simp <;> with_reducible rfl
        try simp only [Act.put, aS, aZ, aC]
        refine tkH 27 (some 77) ?_ rfl (Or.inl ⟨by rfl, ?_⟩) ?_; rotate_left
        · intro w hSw; (try dsimp only at hSw); go_simp <;> with_reducible rfl
        try simp only [Act.put, aS, aZ, aC]
        refine tkH 28 (some 78) ?_ rfl (Or.inl ⟨by rfl, ?_⟩) ?_; rotate_left
        · intro w hSw; (try dsimp only at hSw); go_simp <;> with_reducible rfl
        try simp only [Act.put, aS, aZ, aC]
        refine wpAnyH_ready (rs := [29]) (by kernel_rfl) (by simp) ?_
        refine AllReadyH.cons (o := ⟨none, _, _, _, _, _⟩) rfl (fun K hK => ?_) AllReadyH.nil
        refine (if_pos (by rfl)).mpr ?_
        refine wp_store_cell2 109 _ _ rfl (nw) t (.int .u32 (C3.toNat : Int)) rfl rfl ht11 (by kernel_rfl) rfl rfl ?_
        refine hK.out _ _ (by exact st11') (fun hHeld => ?_)
        clear hK K
        try simp only [Act.put]
        refine wpAnyH_done (by kernel_rfl) ?_ _
        clear hHeld
        go_wp2_with (fail)
        exact ⟨⟨t + 1, by omega, by go_num, q0', q1', by rw [hsc.out]; exact q2', qs', qB'⟩, by simp [RowKit.intOf]; omega⟩
    · obtain rfl : t = 64 := by omega
      have cK := hid (rconstants_any wr)
      obtain ⟨WS, hWS⟩ : ∃ l, schedW bl 64 = l := ⟨_, rfl⟩
      have hW6 : WS.length = 64 := by rw [← hWS, schedW_len]
      rw [hWS] at g2
      replace hWS := hid hWS
      go_wp2_with (fail)
      refine cK.out.mono ?_
      rintro e w2 ⟨rfl, b2⟩
      have a02 := (Kept.of_below b2 0).same _ _ g0 (.inl rfl)
      have a12 := (Kept.of_below b2 0).same _ _ g1 (.inl rfl)
      have a22 := (Kept.of_below b2 0).same _ _ g2 (.inl rfl)
      have hz2 : nw < wr.heap.size := (Array.getElem?_eq_some_iff.1 g2).1
      have B2 := hB.trans (b2.mono (by omega))
      obtain ⟨nk, hnk⟩ : ∃ n, w2.heap.size = n := ⟨_, rfl⟩
      have hnk2 : nw < nk := by have := b2.size; omega
      have a03 := (Kept.alloc 0 w2 (.cells #[.int .u32 0, .int .u32 0, .int .u32 0, .int .u32 0, .int .u32 0, .int .u32 0, .int .u32 0, .int .u32 0, .int .u32 0, .int .u32 0, .int .u32 0, .int .u32 0, .int .u32 0, .int .u32 0, .int .u32 0, .int .u32 0, .int .u32 0, .int .u32 0, .int .u32 0, .int .u32 0, .int .u32 0, .int .u32 0, .int .u32 0, .int .u32 0, .int .u32 0, .int .u32 0, .int .u32 0, .int .u32 0, .int .u32 0, .int .u32 0, .int .u32 0, .int .u32 0, .int .u32 0, .int .u32 0, .int .u32 0, .int .u32 0, .int .u32 0, .int .u32 0, .int .u32 0, .int .u32 0, .int .u32 0, .int .u32 0, .int .u32 0, .int .u32 0, .int .u32 0, .int .u32 0, .int .u32 0, .int .u32 0, .int .u32 0, .int .u32 0, .int .u32 0, .int .u32 0, .int .u32 0, .int .u32 0, .int .u32 0, .int .u32 0, .int .u32 0, .int .u32 0, .int .u32 0, .int .u32 0, .int .u32 0, .int .u32 0, .int .u32 0, .int .u32 0] 118)).same _ _ a02 (.inl rfl)
      have a13 := (Kept.alloc 0 w2 (.cells #[.int .u32 0, .int .u32 0, .int .u32 0, .int .u32 0, .int .u32 0, .int .u32 0, .int .u32 0, .int .u32 0, .int .u32 0, .int .u32 0, .int .u32 0, .int .u32 0, .int .u32 0, .int .u32 0, .int .u32 0, .int .u32 0, .int .u32 0, .int .u32 0, .int .u32 0, .int .u32 0, .int .u32 0, .int .u32 0, .int .u32 0, .int .u32 0, .int .u32 0, .int .u32 0, .int .u32 0, .int .u32 0, .int .u32 0, .int .u32 0, .int .u32 0, .int .u32 0, .int .u32 0, .int .u32 0, .int .u32 0, .int .u32 0, .int .u32 0, .int .u32 0, .int .u32 0, .int .u32 0, .int .u32 0, .int .u32 0, .int .u32 0, .int .u32 0, .int .u32 0, .int .u32 0, .int .u32 0, .int .u32 0, .int .u32 0, .int .u32 0, .int .u32 0, .int .u32 0, .int .u32 0, .int .u32 0, .int .u32 0, .int .u32 0, .int .u32 0, .int .u32 0, .int .u32 0, .int .u32 0, .int .u32 0, .int .u32 0, .int .u32 0, .int .u32 0] 118)).same _ _ a12 (.inl rfl)
      have a23 := (Kept.alloc 0 w2 (.cells #[.int .u32 0, .int .u32 0, .int .u32 0, .int .u32 0, .int .u32 0, .int .u32 0, .int .u32 0, .int .u32 0, .int .u32 0, .int .u32 0, .int .u32 0, .int .u32 0, .int .u32 0, .int .u32 0, .int .u32 0, .int .u32 0, .int .u32 0, .int .u32 0, .int .u32 0, .int .u32 0, .int .u32 0, .int .u32 0, .int .u32 0, .int .u32 0, .int .u32 0, .int .u32 0, .int .u32 0, .int .u32 0, .int .u32 0, .int .u32 0, .int .u32 0, .int .u32 0, .int .u32 0, .int .u32 0, .int .u32 0, .int .u32 0, .int .u32 0, .int .u32 0, .int .u32 0, .int .u32 0, .int .u32 0, .int .u32 0, .int .u32 0, .int .u32 0, .int .u32 0, .int .u32 0, .int .u32 0, .int .u32 0, .int .u32 0, .int .u32 0, .int .u32 0, .int .u32 0, .int .u32 0, .int .u32 0, .int .u32 0, .int .u32 0, .int .u32 0, .int .u32 0, .int .u32 0, .int .u32 0, .int .u32 0, .int .u32 0, .int .u32 0, .int .u32 0] 118)).same _ _ a22 (.inl rfl)
      have B3 := B2.alloc (by have := B2.size; omega) (.cells #[.int .u32 0, .int .u32 0, .int .u32 0, .int .u32 0, .int .u32 0, .int .u32 0, .int .u32 0, .int .u32 0, .int .u32 0, .int .u32 0, .int .u32 0, .int .u32 0, .int .u32 0, .int .u32 0, .int .u32 0, .int .u32 0, .int .u32 0, .int .u32 0, .int .u32 0, .int .u32 0, .int .u32 0, .int .u32 0, .int .u32 0, .int .u32 0, .int .u32 0, .int .u32 0, .int .u32 0, .int .u32 0, .int .u32 0, .int .u32 0, .int .u32 0, .int .u32 0, .int .u32 0, .int .u32 0, .int .u32 0, .int .u32 0, .int .u32 0, .int .u32 0, .int .u32 0, .int .u32 0, .int .u32 0, .int .u32 0, .int .u32 0, .int .u32 0, .int .u32 0, .int .u32 0, .int .u32 0, .int .u32 0, .int .u32 0, .int .u32 0, .int .u32 0, .int .u32 0, .int .u32 0, .int .u32 0, .int .u32 0, .int .u32 0, .int .u32 0, .int .u32 0, .int .u32 0, .int .u32 0, .int .u32 0, .int .u32 0, .int .u32 0, .int .u32 0] 118)
      have k2' : (w2.alloc (.cells #[.int .u32 0, .int .u32 0, .int .u32 0, .int .u32 0, .int .u32 0, .int .u32 0, .int .u32 0, .int .u32 0, .int .u32 0, .int .u32 0, .int .u32 0, .int .u32 0, .int .u32 0, .int .u32 0, .int .u32 0, .int .u32 0, .int .u32 0, .int .u32 0, .int .u32 0, .int .u32 0, .int .u32 0, .int .u32 0, .int .u32 0, .int .u32 0, .int .u32 0, .int .u32 0, .int .u32 0, .int .u32 0, .int .u32 0, .int .u32 0, .int .u32 0, .int .u32 0, .int .u32 0, .int .u32 0, .int .u32 0, .int .u32 0, .int .u32 0, .int .u32 0, .int .u32 0, .int .u32 0, .int .u32 0, .int .u32 0, .int .u32 0, .int .u32 0, .int .u32 0, .int .u32 0, .int .u32 0, .int .u32 0, .int .u32 0, .int .u32 0, .int .u32 0, .int .u32 0, .int .u32 0, .int .u32 0, .int .u32 0, .int .u32 0, .int .u32 0, .int .u32 0, .int .u32 0, .int .u32 0, .int .u32 0, .int .u32 0, .int .u32 0, .int .u32 0] 118)).heap[nk]? = some (.cells (rowW (List.replicate 64 0)) 118 (0, 0)) := by
        rw [zero64_is, ← hnk]; exact World.alloc_heap_new w2 _
      have hk6 : (Try.prog.info? 118).map (·.size) = some (rowW kW).size := by kernel_rfl
      have ht9 : (w2.alloc (.cells #[.int .u32 0, .int .u32 0, .int .u32 0, .int .u32 0, .int .u32 0, .int .u32 0, .int .u32 0, .int .u32 0, .int .u32 0, .int .u32 0, .int .u32 0, .int .u32 0, .int .u32 0, .int .u32 0, .int .u32 0, .int .u32 0, .int .u32 0, .int .u32 0, .int .u32 0, .int .u32 0, .int .u32 0, .int .u32 0, .int .u32 0, .int .u32 0, .int .u32 0, .int .u32 0, .int .u32 0, .int .u32 0, .int .u32 0, .int .u32 0, .int .u32 0, .int .u32 0, .int .u32 0, .int .u32 0, .int .u32 0, .int .u32 0, .int .u32 0, .int .u32 0, .int .u32 0, .int .u32 0, .int .u32 0, .int .u32 0, .int .u32 0, .int .u32 0, .int .u32 0, .int .u32 0, .int .u32 0, .int .u32 0, .int .u32 0, .int .u32 0, .int .u32 0, .int .u32 0, .int .u32 0, .int .u32 0, .int .u32 0, .int .u32 0, .int .u32 0, .int .u32 0, .int .u32 0, .int .u32 0, .int .u32 0, .int .u32 0, .int .u32 0, .int .u32 0] 118)).there nk 0 (rowW kW).size := there_blk k2' (by rw [rowW_size, rowW_size]; rfl)
      have u3 := (Upd.refl k2').setCells (rowW kW).toList (by rw [Array.length_toList, rowW_size, rowW_size]; rfl)
      clear cK b2 g0 g1 g2 gs hB a02 a12 a22 B2
      go_upto_region 13 with (refine wpList_store_mid rfl 118 _ _ rfl nk 0 (rowW kW) rfl rfl ht9 hk6 (one_rowW _) ?_)
      try simp only [Act.put]
      obtain ⟨W3, hW3⟩ : ∃ W : World, W = (w2.alloc (.cells #[.int .u32 0, .int .u32 0, .int .u32 0, .int .u32 0, .int .u32 0, .int .u32 0, .int .u32 0, .int .u32 0, .int .u32 0, .int .u32 0, .int .u32 0, .int .u32 0, .int .u32 0, .int .u32 0, .int .u32 0, .int .u32 0, .int .u32 0, .int .u32 0, .int .u32 0, .int .u32 0, .int .u32 0, .int .u32 0, .int .u32 0, .int .u32 0, .int .u32 0, .int .u32 0, .int .u32 0, .int .u32 0, .int .u32 0, .int .u32 0, .int .u32 0, .int .u32 0, .int .u32 0, .int .u32 0, .int .u32 0, .int .u32 0, .int .u32 0, .int .u32 0, .int .u32 0, .int .u32 0, .int .u32 0, .int .u32 0, .int .u32 0, .int .u32 0, .int .u32 0, .int .u32 0, .int .u32 0, .int .u32 0, .int .u32 0, .int .u32 0, .int .u32 0, .int .u32 0, .int .u32 0, .int .u32 0, .int .u32 0, .int .u32 0, .int .u32 0, .int .u32 0, .int .u32 0, .int .u32 0, .int .u32 0, .int .u32 0, .int .u32 0, .int .u32 0] 118)).setCells nk 0 (rowW kW).toList := ⟨_, rfl⟩
      rw [← hW3] at u3 ⊢
      have k3 : W3.heap[nk]? = some (.cells (rowW kW) 118 (0, 0)) := by have := u3.here; rwa [Array.toArray_toList] at this
      have a04 := (u3.off n₀ (by omega)).trans a03
      have a14 := (u3.off (n₀ + 1) (by omega)).trans a13
      have a24 := (u3.off (nw) (by omega)).trans a23
      have B4 := u3.below B3 (by omega)
      have hz3 : W3.heap.size = nk + 1 := by rw [u3.size, World.size_alloc, hnk]
      clear a03 a13 a23 B3 k2' ht9 u3 hW3
      have c0 : W3.cell? ⟨n₀, 0, none⟩ = some (.int .u32 (s.a.toNat : Int)) := cell_blk (i := 0) a04 rfl
      have c1 : W3.cell? ⟨n₀, 1, none⟩ = some (.int .u32 (s.b.toNat : Int)) := cell_blk (i := 1) a04 rfl
      have c2 : W3.cell? ⟨n₀, 2, none⟩ = some (.int .u32 (s.c.toNat : Int)) := cell_blk (i := 2) a04 rfl
      have c3 : W3.cell? ⟨n₀, 3, none⟩ = some (.int .u32 (s.d.toNat : Int)) := cell_blk (i := 3) a04 rfl
      have c4 : W3.cell? ⟨n₀, 4, none⟩ = some (.int .u32 (s.e.toNat : Int)) := cell_blk (i := 4) a04 rfl
      have c5 : W3.cell? ⟨n₀, 5, none⟩ = some (.int .u32 (s.f.toNat : Int)) := cell_blk (i := 5) a04 rfl
      have c6 : W3.cell? ⟨n₀, 6, none⟩ = some (.int .u32 (s.g.toNat : Int)) := cell_blk (i := 6) a04 rfl
      have c7 : W3.cell? ⟨n₀, 7, none⟩ = some (.int .u32 (s.h.toNat : Int)) := cell_blk (i := 7) a04 rfl
      obtain ⟨nv, hnv⟩ : ∃ n, nk + 1 = n := ⟨_, rfl⟩
      have r5 := World.alloc_heap_new W3 (.cells #[.int .u32 (s.a.toNat : Int), .int .u32 (s.b.toNat : Int), .int .u32 (s.c.toNat : Int), .int .u32 (s.d.toNat : Int), .int .u32 (s.e.toNat : Int), .int .u32 (s.f.toNat : Int), .int .u32 (s.g.toNat : Int), .int .u32 (s.h.toNat : Int)] 114)
      rw [hz3, hnv] at r5
      have a0 := (Kept.alloc 0 W3 (.cells #[.int .u32 (s.a.toNat : Int), .int .u32 (s.b.toNat : Int), .int .u32 (s.c.toNat : Int), .int .u32 (s.d.toNat : Int), .int .u32 (s.e.toNat : Int), .int .u32 (s.f.toNat : Int), .int .u32 (s.g.toNat : Int), .int .u32 (s.h.toNat : Int)] 114)).same _ _ a04 (.inl rfl)
      have a1 := (Kept.alloc 0 W3 (.cells #[.int .u32 (s.a.toNat : Int), .int .u32 (s.b.toNat : Int), .int .u32 (s.c.toNat : Int), .int .u32 (s.d.toNat : Int), .int .u32 (s.e.toNat : Int), .int .u32 (s.f.toNat : Int), .int .u32 (s.g.toNat : Int), .int .u32 (s.h.toNat : Int)] 114)).same _ _ a14 (.inl rfl)
      have a2 := (Kept.alloc 0 W3 (.cells #[.int .u32 (s.a.toNat : Int), .int .u32 (s.b.toNat : Int), .int .u32 (s.c.toNat : Int), .int .u32 (s.d.toNat : Int), .int .u32 (s.e.toNat : Int), .int .u32 (s.f.toNat : Int), .int .u32 (s.g.toNat : Int), .int .u32 (s.h.toNat : Int)] 114)).same _ _ a24 (.inl rfl)
      have k6 := (Kept.alloc 0 W3 (.cells #[.int .u32 (s.a.toNat : Int), .int .u32 (s.b.toNat : Int), .int .u32 (s.c.toNat : Int), .int .u32 (s.d.toNat : Int), .int .u32 (s.e.toNat : Int), .int .u32 (s.f.toNat : Int), .int .u32 (s.g.toNat : Int), .int .u32 (s.h.toNat : Int)] 114)).same _ _ k3 (.inl rfl)
      have B6 := B4.alloc (by have := B4.size; omega) (.cells #[.int .u32 (s.a.toNat : Int), .int .u32 (s.b.toNat : Int), .int .u32 (s.c.toNat : Int), .int .u32 (s.d.toNat : Int), .int .u32 (s.e.toNat : Int), .int .u32 (s.f.toNat : Int), .int .u32 (s.g.toNat : Int), .int .u32 (s.h.toNat : Int)] 114)
      clear a04 a14 a24 k3 B4
      rw [hnv] at hz3
      have hnv2 : nk < nv := by omega
      go_wp2_with (fail)
      go_loopw [12] (fun iv wr => ∃ t : Nat, t ≤ 64 ∧ iv = .int .i64 t ∧ wr.heap[n₀]? = some (.cells (rowW s.l) 114 (0, 0)) ∧ wr.heap[n₀ + 1]? = some (.cells #[.int .u32 0, .int .u32 0, .int .u32 0, .int .u32 0, .int .u32 0, .int .u32 0, .int .u32 0, .int .u32 0] 114 (0, 0)) ∧ wr.heap[nw]? = some (.cells (rowW (WS)) 118 (0, 0)) ∧ wr.heap[nk]? = some (.cells (rowW kW) 118 (0, 0)) ∧ wr.heap[nv]? = some (.cells (rowW (run8 s WS t).l) 114 (0, 0)) ∧ Below n₀ w wr) (fun iv _ => 64 - (RowKit.intOf iv).toNat)
      case atStart => exact ⟨0, Nat.zero_le _, rfl, a0, a1, a2, k6, r5, B6⟩
      case round =>
        obtain ⟨t, ht, rfl, g0, g1, g2, gk, gr, hB⟩ := hrel
        clear a0 a1 a2 k6 r5 B6 c0 c1 c2 c3 c4 c5 c6 c7 ht6
        by_cases ht6 : t < 64
        · have htI : (t : Int) < 64 := by omega
          obtain ⟨kk, hkk⟩ : ∃ x, kW[t]? = some x := ⟨_, List.getElem?_eq_getElem (show t < 64 from ht6)⟩
          obtain ⟨ww, hww⟩ : ∃ x, WS[t]? = some x := ⟨_, List.getElem?_eq_getElem (by omega)⟩
          obtain ⟨r, hr⟩ : ∃ r, run8 s WS t = r := ⟨_, rfl⟩
          have hrs : run8 s WS (t + 1) = step8 r kk ww := by
            rw [run8, hr, List.getD_eq_getElem?_getD, List.getD_eq_getElem?_getD, hkk, hww]; rfl
          rw [hr] at gr
          have hsX := stepX_is r kk ww
          have hsY := stepY_is r
          obtain ⟨P1, hP1⟩ : ∃ x : W32, r.e &&& r.f = x := ⟨_, rfl⟩
          obtain ⟨N1, hN1⟩ : ∃ x : W32, ~~~r.e = x := ⟨_, rfl⟩
          obtain ⟨P2, hP2⟩ : ∃ x : W32, N1 &&& r.g = x := ⟨_, rfl⟩
          obtain ⟨CH, hCH⟩ : ∃ x : W32, P1 ||| P2 = x := ⟨_, rfl⟩
          obtain ⟨Q1, hQ1⟩ : ∃ x : W32, r.a &&& r.b = x := ⟨_, rfl⟩
          obtain ⟨Q2, hQ2⟩ : ∃ x : W32, r.a &&& r.c = x := ⟨_, rfl⟩
          obtain ⟨Q3, hQ3⟩ : ∃ x : W32, Q1 ||| Q2 = x := ⟨_, rfl⟩
          obtain ⟨Q4, hQ4⟩ : ∃ x : W32, r.b &&& r.c = x := ⟨_, rfl⟩
          obtain ⟨MO, hMO⟩ : ∃ x : W32, Q3 ||| Q4 = x := ⟨_, rfl⟩
          obtain ⟨R6, hR6⟩ : ∃ x : W32, rotr r.e 6 = x := ⟨_, rfl⟩
          obtain ⟨R11, hR11⟩ : ∃ x : W32, rotr r.e 11 = x := ⟨_, rfl⟩
          obtain ⟨X0, hX0⟩ : ∃ x : W32, R6 ^^^ R11 = x := ⟨_, rfl⟩
          obtain ⟨R25, hR25⟩ : ∃ x : W32, rotr r.e 25 = x := ⟨_, rfl⟩
          obtain ⟨T1, hT1⟩ : ∃ x : W32, X0 ^^^ R25 = x := ⟨_, rfl⟩
          obtain ⟨X1, hX1⟩ : ∃ x : W32, r.h + T1 = x := ⟨_, rfl⟩
          obtain ⟨X2, hX2⟩ : ∃ x : W32, X1 + CH = x := ⟨_, rfl⟩
          obtain ⟨X3, hX3⟩ : ∃ x : W32, X2 + kk = x := ⟨_, rfl⟩
          obtain ⟨X4, hX4⟩ : ∃ x : W32, X3 + ww = x := ⟨_, rfl⟩
          obtain ⟨R2, hR2⟩ : ∃ x : W32, rotr r.a 2 = x := ⟨_, rfl⟩
          obtain ⟨R13, hR13⟩ : ∃ x : W32, rotr r.a 13 = x := ⟨_, rfl⟩
          obtain ⟨Y0, hY0⟩ : ∃ x : W32, R2 ^^^ R13 = x := ⟨_, rfl⟩
          obtain ⟨R22, hR22⟩ : ∃ x : W32, rotr r.a 22 = x := ⟨_, rfl⟩
          obtain ⟨T2, hT2⟩ : ∃ x : W32, Y0 ^^^ R22 = x := ⟨_, rfl⟩
          obtain ⟨Y1, hY1⟩ : ∃ x : W32, T2 + MO = x := ⟨_, rfl⟩
          obtain ⟨Z0, hZ0⟩ : ∃ x : W32, X4 + Y1 = x := ⟨_, rfl⟩
          obtain ⟨Z4, hZ4⟩ : ∃ x : W32, r.d + X4 = x := ⟨_, rfl⟩
          have m1 : bits .and .u32 (r.e.toNat : Int) (r.f.toNat : Int) = (P1.toNat : Int) := by rw [← hP1]; exact bits_andW _ _
          have m2 : bits .xor .u32 (if IntKind.u32.signed = true then -1 else IntKind.u32.max) (r.e.toNat : Int) = (N1.toNat : Int) := by rw [← hN1]; exact notW _
          have m3 : bits .and .u32 (N1.toNat : Int) (r.g.toNat : Int) = (P2.toNat : Int) := by rw [← hP2]; exact bits_andW _ _
          have m4 : bits .or .u32 (P1.toNat : Int) (P2.toNat : Int) = (CH.toNat : Int) := by rw [← hCH]; exact bits_orW _ _
          have m5 : bits .and .u32 (r.a.toNat : Int) (r.b.toNat : Int) = (Q1.toNat : Int) := by rw [← hQ1]; exact bits_andW _ _
          have m6 : bits .and .u32 (r.a.toNat : Int) (r.c.toNat : Int) = (Q2.toNat : Int) := by rw [← hQ2]; exact bits_andW _ _
          have m7 : bits .or .u32 (Q1.toNat : Int) (Q2.toNat : Int) = (Q3.toNat : Int) := by rw [← hQ3]; exact bits_orW _ _
          have m8 : bits .and .u32 (r.b.toNat : Int) (r.c.toNat : Int) = (Q4.toNat : Int) := by rw [← hQ4]; exact bits_andW _ _
          have m9 : bits .or .u32 (Q3.toNat : Int) (Q4.toNat : Int) = (MO.toNat : Int) := by rw [← hMO]; exact bits_orW _ _
          have k1 : bits .xor .u32 (R6.toNat : Int) (R11.toNat : Int) = (X0.toNat : Int) := by rw [← hX0]; exact bits_xorW _ _
          have k2 : bits .xor .u32 (X0.toNat : Int) (R25.toNat : Int) = (T1.toNat : Int) := by rw [← hT1]; exact bits_xorW _ _
          have k3 : IntKind.u32.wrap ((r.h.toNat : Int) + (T1.toNat : Int)) = (X1.toNat : Int) := by rw [← hX1]; exact addWr _ _
          have k4 : IntKind.u32.wrap ((X1.toNat : Int) + (CH.toNat : Int)) = (X2.toNat : Int) := by rw [← hX2]; exact addWr _ _
          have k5 : IntKind.u32.wrap ((X2.toNat : Int) + (kk.toNat : Int)) = (X3.toNat : Int) := by rw [← hX3]; exact addWr _ _
          have k6 : IntKind.u32.wrap ((X3.toNat : Int) + (ww.toNat : Int)) = (X4.toNat : Int) := by rw [← hX4]; exact addWr _ _
          have k7 : bits .xor .u32 (R2.toNat : Int) (R13.toNat : Int) = (Y0.toNat : Int) := by rw [← hY0]; exact bits_xorW _ _
          have k8 : bits .xor .u32 (Y0.toNat : Int) (R22.toNat : Int) = (T2.toNat : Int) := by rw [← hT2]; exact bits_xorW _ _
          have k9 : IntKind.u32.wrap ((T2.toNat : Int) + (MO.toNat : Int)) = (Y1.toNat : Int) := by rw [← hY1]; exact addWr _ _
          have k10 : IntKind.u32.wrap ((X4.toNat : Int) + (Y1.toNat : Int)) = (Z0.toNat : Int) := by rw [← hZ0]; exact addWr _ _
          have k11 : IntKind.u32.wrap ((r.d.toNat : Int) + (X4.toNat : Int)) = (Z4.toNat : Int) := by rw [← hZ4]; exact addWr _ _
          have hst : step8 r kk ww = ⟨Z0, r.a, r.b, r.c, Z4, r.e, r.f, r.g⟩ := by
            unfold step8
            rw [← hsX, ← hsY, hP1, hN1, hP2, hCH, hQ1, hQ2, hQ3, hQ4, hMO, hR6, hR11, hX0, hR25, hT1, hX1, hX2, hX3, hX4, hR2, hR13, hY0, hR22, hT2, hY1, hZ0, hZ4]
          rw [hst] at hrs
          have hg4 : wr.drew.drew.heap[nv]? = some (.cells (rowW r.l) 114 (0, 0)) := gr
          have c0 : wr.cell? ⟨nv, 0, none⟩ = some (.int .u32 (r.a.toNat : Int)) := cell_blk (i := 0) gr rfl
          have c1 : wr.cell? ⟨nv, 1, none⟩ = some (.int .u32 (r.b.toNat : Int)) := cell_blk (i := 1) gr rfl
          have c2 : wr.cell? ⟨nv, 2, none⟩ = some (.int .u32 (r.c.toNat : Int)) := cell_blk (i := 2) gr rfl
          have c3 : wr.cell? ⟨nv, 3, none⟩ = some (.int .u32 (r.d.toNat : Int)) := cell_blk (i := 3) gr rfl
          have c4 : wr.cell? ⟨nv, 4, none⟩ = some (.int .u32 (r.e.toNat : Int)) := cell_blk (i := 4) gr rfl
          have c5 : wr.cell? ⟨nv, 5, none⟩ = some (.int .u32 (r.f.toNat : Int)) := cell_blk (i := 5) gr rfl
          have c6 : wr.cell? ⟨nv, 6, none⟩ = some (.int .u32 (r.g.toNat : Int)) := cell_blk (i := 6) gr rfl
          have c7 : wr.cell? ⟨nv, 7, none⟩ = some (.int .u32 (r.h.toNat : Int)) := cell_blk (i := 7) gr rfl
          have ck := cell_blk gk (rowW_at hkk)
          have cw := cell_blk g2 (rowW_at hww)
          have st19 : (fun W => W.cell? ⟨nv, 0, none⟩ = some (.int .u32 (r.a.toNat : Int)) ∧ W.cell? ⟨nv, 1, none⟩ = some (.int .u32 (r.b.toNat : Int)) ∧ W.cell? ⟨nv, 2, none⟩ = some (.int .u32 (r.c.toNat : Int)) ∧ W.cell? ⟨nv, 3, none⟩ = some (.int .u32 (r.d.toNat : Int)) ∧ W.cell? ⟨nv, 4, none⟩ = some (.int .u32 (r.e.toNat : Int)) ∧ W.cell? ⟨nv, 5, none⟩ = some (.int .u32 (r.f.toNat : Int)) ∧ W.cell? ⟨nv, 6, none⟩ = some (.int .u32 (r.g.toNat : Int)) ∧ W.cell? ⟨nv, 7, none⟩ = some (.int .u32 (r.h.toNat : Int)) ∧ W.cell? ⟨nk, t, none⟩ = some (.int .u32 (kk.toNat : Int)) ∧ W.cell? ⟨nw, t, none⟩ = some (.int .u32 (ww.toNat : Int))) wr.drew := ⟨c0, c1, c2, c3, c4, c5, c6, c7, ck, cw⟩
          have st20 : (fun W => W.cell? ⟨nv, 0, none⟩ = some (.int .u32 (r.a.toNat : Int)) ∧ W.cell? ⟨nv, 1, none⟩ = some (.int .u32 (r.b.toNat : Int)) ∧ W.cell? ⟨nv, 2, none⟩ = some (.int .u32 (r.c.toNat : Int)) ∧ W.cell? ⟨nv, 3, none⟩ = some (.int .u32 (r.d.toNat : Int)) ∧ W.cell? ⟨nv, 4, none⟩ = some (.int .u32 (r.e.toNat : Int)) ∧ W.cell? ⟨nv, 5, none⟩ = some (.int .u32 (r.f.toNat : Int)) ∧ W.cell? ⟨nv, 6, none⟩ = some (.int .u32 (r.g.toNat : Int)) ∧ W.cell? ⟨nv, 7, none⟩ = some (.int .u32 (r.h.toNat : Int)) ∧ W.cell? ⟨nk, t, none⟩ = some (.int .u32 (kk.toNat : Int)) ∧ W.cell? ⟨nw, t, none⟩ = some (.int .u32 (ww.toNat : Int))) wr.drew.drew := st19
          have un := (Upd.refl hg4).setCells (rowW (⟨Z0, r.a, r.b, r.c, Z4, r.e, r.f, r.g⟩ : H8).l).toList (by rw [Array.length_toList, rowW_size, rowW_size]; rfl)
          have ht21 : wr.drew.drew.there nv 0 (rowW (⟨Z0, r.a, r.b, r.c, Z4, r.e, r.f, r.g⟩ : H8).l).size := there_blk hg4 (by rw [rowW_size, rowW_size]; rfl)
          have hi21 : (Try.prog.info? 114).map (·.size) = some (rowW (⟨Z0, r.a, r.b, r.c, Z4, r.e, r.f, r.g⟩ : H8).l).size := by kernel_rfl
          have q0 := (un.off n₀ (by omega)).trans (show wr.drew.drew.heap[n₀]? = _ from g0)
          have q1 := (un.off (n₀ + 1) (by omega)).trans (show wr.drew.drew.heap[n₀ + 1]? = _ from g1)
          have q2 := (un.off (nw) (by omega)).trans (show wr.drew.drew.heap[nw]? = _ from g2)
          have qk := (un.off nk (by omega)).trans (show wr.drew.drew.heap[nk]? = _ from gk)
          have qr : (wr.drew.drew.setCells nv 0 (rowW (⟨Z0, r.a, r.b, r.c, Z4, r.e, r.f, r.g⟩ : H8).l).toList).heap[nv]? = some (.cells (rowW (run8 s WS (t + 1)).l) 114 (0, 0)) := by
            have h9 := un.here
            rw [Array.toArray_toList] at h9
            rw [hrs]; exact h9
          have qB := un.below ((hB.drewN 1).drewN 1) (by omega)
          have her6 := hid hR6
          have her11 := hid hR11
          have her25 := hid hR25
          have har2 := hid hR2
          have har13 := hid hR13
          have har22 := hid hR22
          replace qr := hid qr
          replace q0 := hid q0
          replace q1 := hid q1
          replace q2 := hid q2
          replace qk := hid qk
          replace qB := hid qB
          clear un hkk hww hr hrs hst hsX hsY g0 g1 g2 gk gr hg4 hB ck cw hP1 hN1 hP2 hCH hQ1 hQ2 hQ3 hQ4 hMO hR6 hR11 hX0 hR25 hT1 hX1 hX2 hX3 hX4 hR2 hR13 hY0 hR22 hT2 hY1 hZ0 hZ4
          go_upto_region 19 with (fail)
          refine wp_region_held_drew (S := (fun W => W.cell? ⟨nv, 0, none⟩ = some (.int .u32 (r.a.toNat : Int)) ∧ W.cell? ⟨nv, 1, none⟩ = some (.int .u32 (r.b.toNat : Int)) ∧ W.cell? ⟨nv, 2, none⟩ = some (.int .u32 (r.c.toNat : Int)) ∧ W.cell? ⟨nv, 3, none⟩ = some (.int .u32 (r.d.toNat : Int)) ∧ W.cell? ⟨nv, 4, none⟩ = some (.int .u32 (r.e.toNat : Int)) ∧ W.cell? ⟨nv, 5, none⟩ = some (.int .u32 (r.f.toNat : Int)) ∧ W.cell? ⟨nv, 6, none⟩ = some (.int .u32 (r.g.toNat : Int)) ∧ W.cell? ⟨nv, 7, none⟩ = some (.int .u32 (r.h.toNat : Int)) ∧ W.cell? ⟨nk, t, none⟩ = some (.int .u32 (kk.toNat : Int)) ∧ W.cell? ⟨nw, t, none⟩ = some (.int .u32 (ww.toNat : Int)))) (by kernel_rfl) st19 (fun hHeld => ?_)
          refine tkH 0 (some 114) ?_ rfl (Or.inl ⟨by rfl, ?_⟩) ?_; rotate_left
          · intro w hSw; (try dsimp only at hSw); go_simp <;> with_reducible rfl
          try simp only [Act.put, aS, aZ, aC]
          refine tkH 1 (some 115) ?_ rfl (Or.inl ⟨by rfl, ?_⟩) ?_; rotate_left
          · intro w hSw; (try dsimp only at hSw); go_simp <;> with_reducible rfl
          try simp only [Act.put, aS, aZ, aC]
          refine tkH 2 (some 116) ?_ rfl (Or.inl ⟨by rfl, ?_⟩) ?_; rotate_left
          · intro w hSw; (try dsimp only at hSw); go_simp <;> with_reducible rfl
          try simp only [Act.put, aS, aZ, aC]
          refine tkH 3 (some 117) ?_ rfl (Or.inl ⟨by rfl, ?_⟩) ?_; rotate_left
          · intro w hSw; (try dsimp only at hSw); go_simp <;> with_reducible rfl
          try simp only [Act.put, aS, aZ, aC]
          refine tkH 5 (some 119) ?_ rfl (Or.inl ⟨by rfl, ?_⟩) ?_; rotate_left
          · intro w hSw; (try dsimp only at hSw); go_simp <;> with_reducible rfl
          try simp only [Act.put, aS, aZ, aC]
          refine tkH 6 (some 120) ?_ rfl (Or.inl ⟨by rfl, ?_⟩) ?_; rotate_left
          · intro w hSw; (try dsimp only at hSw); go_simp <;> with_reducible rfl
          try simp only [Act.put, aS, aZ, aC]
          refine tkH 9 (some 123) ?_ rfl (Or.inl ⟨by rfl, ?_⟩) ?_; rotate_left
          · intro w hSw; (try dsimp only at hSw); go_simp <;> with_reducible rfl
          try simp only [Act.put, aS, aZ, aC]
          refine tkH 10 (some 124) ?_ rfl (Or.inl ⟨by rfl, ?_⟩) ?_; rotate_left
          · intro w hSw; (try dsimp only at hSw); go_simp <;> with_reducible rfl
          try simp only [Act.put, aS, aZ, aC]
          refine tkH 14 (some 128) ?_ rfl (Or.inl ⟨by rfl, ?_⟩) ?_; rotate_left
          · intro w hSw; (try dsimp only at hSw); go_simp <;> with_reducible rfl
          try simp only [Act.put, aS, aZ, aC]
          refine tkH 16 (some 130) ?_ rfl (Or.inl ⟨by rfl, ?_⟩) ?_; rotate_left
          · intro w hSw; (try dsimp only at hSw); go_simp <;> with_reducible rfl
          try simp only [Act.put, aS, aZ, aC]
          refine tkH 17 (some 131) ?_ rfl (Or.inl ⟨by rfl, ?_⟩) ?_; rotate_left
          · intro w hSw; (try dsimp only at hSw); go_simp <;> with_reducible rfl
          try simp only [Act.put, aS, aZ, aC]
          refine tkH 18 (some 132) ?_ rfl (Or.inl ⟨by rfl, ?_⟩) ?_; rotate_left
          · intro w hSw; (try dsimp only at hSw); go_simp <;> with_reducible rfl
          try simp only [Act.put, aS, aZ, aC]
          refine tkH 20 (some 134) ?_ rfl (Or.inl ⟨by rfl, ?_⟩) ?_; rotate_left
          · intro w hSw; (try dsimp only at hSw); go_simp <;> with_reducible rfl
          try simp only [Act.put, aS, aZ, aC]
          refine tkH 21 (some 135) ?_ rfl (Or.inl ⟨by rfl, ?_⟩) ?_; rotate_left
          · intro w hSw; (try dsimp only at hSw); go_simp <;> with_reducible rfl
          try simp only [Act.put, aS, aZ, aC]
          refine tkH 22 (some 136) ?_ rfl (Or.inl ⟨by rfl, ?_⟩) ?_; rotate_left
          · intro w hSw; (try dsimp only at hSw); go_simp <;> with_reducible rfl
          try simp only [Act.put, aS, aZ, aC]
          refine wpAnyH_ready (rs := [4]) (by kernel_rfl) (by simp) ?_
          refine AllReadyH.cons (o := ⟨some 118, _, _, _, _, _⟩) rfl (fun K hK => ?_) AllReadyH.nil
          go_simp
          refine (cT.out r.e 6 _ (by simp)).mono ?_
          rintro e w' ⟨rfl, rfl⟩
          rw [her6.out]
          refine hK.out _ _ (by assumption) (fun hHeld => ?_)
          clear hK K
          try simp only [Act.put, aS, aZ, aC]
          refine wpAnyH_ready (rs := [7]) (by kernel_rfl) (by simp) ?_
          refine AllReadyH.cons (o := ⟨some 121, _, _, _, _, _⟩) rfl (fun K hK => ?_) AllReadyH.nil
          go_simp
          refine (cT.out r.e 11 _ (by simp)).mono ?_
          rintro e w' ⟨rfl, rfl⟩
          rw [her11.out]
          refine hK.out _ _ (by assumption) (fun hHeld => ?_)
          clear hK K
          try simp only [Act.put, aS, aZ, aC]
          refine tkH 8 (some 122) ?_ rfl (Or.inl ⟨by rfl, ?_⟩) ?_; rotate_left
          · intro w hSw; (try dsimp only at hSw); go_simp <;> with_reducible rfl
          try simp only [Act.put, aS, aZ, aC]
          refine wpAnyH_ready (rs := [11]) (by kernel_rfl) (by simp) ?_
          refine AllReadyH.cons (o := ⟨some 125, _, _, _, _, _⟩) rfl (fun K hK => ?_) AllReadyH.nil
          go_simp
          refine (cT.out r.e 25 _ (by simp)).mono ?_
          rintro e w' ⟨rfl, rfl⟩
          rw [her25.out]
          refine hK.out _ _ (by assumption) (fun hHeld => ?_)
          clear hK K
          try simp only [Act.put, aS, aZ, aC]
          refine tkH 12 (some 126) ?_ rfl (Or.inl ⟨by rfl, ?_⟩) ?_; rotate_left
          · intro w hSw; (try dsimp only at hSw); go_simp <;> with_reducible rfl
          try simp only [Act.put, aS, aZ, aC]
          refine tkH 13 (some 127) ?_ rfl (Or.inl ⟨by rfl, ?_⟩) ?_; rotate_left
          · intro w hSw; (try dsimp only at hSw); go_simp <;> with_reducible rfl
          try simp only [Act.put, aS, aZ, aC]
          refine tkH 15 (some 129) ?_ rfl (Or.inl ⟨by rfl, ?_⟩) ?_; rotate_left
          · intro w hSw; (try dsimp only at hSw); go_simp <;> with_reducible rfl
          try simp only [Act.put, aS, aZ, aC]
          refine tkH 19 (some 133) ?_ rfl (Or.inl ⟨by rfl, ?_⟩) ?_; rotate_left
          · intro w hSw; (try dsimp only at hSw); go_simp <;> with_reducible rfl
          try simp only [Act.put, aS, aZ, aC]
          refine tkH 23 (some 137) ?_ rfl (Or.inl ⟨by rfl, ?_⟩) ?_; rotate_left
          · intro w hSw; (try dsimp only at hSw); go_simp <;> with_reducible rfl
          try simp only [Act.put, aS, aZ, aC]
          refine tkH 24 (some 15) ?_ rfl (Or.inl ⟨by rfl, ?_⟩) ?_; rotate_left
          · intro w hSw; (try dsimp only at hSw); go_simp <;> with_reducible rfl
          try simp only [Act.put, aS, aZ, aC]
          refine wpAnyH_done (by kernel_rfl) ?_ _
          skip
          clear hHeld st19
          go_upto_region 20 with (fail)
          refine wp_region_held_drew (S := (fun W => W.cell? ⟨nv, 0, none⟩ = some (.int .u32 (r.a.toNat : Int)) ∧ W.cell? ⟨nv, 1, none⟩ = some (.int .u32 (r.b.toNat : Int)) ∧ W.cell? ⟨nv, 2, none⟩ = some (.int .u32 (r.c.toNat : Int)) ∧ W.cell? ⟨nv, 3, none⟩ = some (.int .u32 (r.d.toNat : Int)) ∧ W.cell? ⟨nv, 4, none⟩ = some (.int .u32 (r.e.toNat : Int)) ∧ W.cell? ⟨nv, 5, none⟩ = some (.int .u32 (r.f.toNat : Int)) ∧ W.cell? ⟨nv, 6, none⟩ = some (.int .u32 (r.g.toNat : Int)) ∧ W.cell? ⟨nv, 7, none⟩ = some (.int .u32 (r.h.toNat : Int)) ∧ W.cell? ⟨nk, t, none⟩ = some (.int .u32 (kk.toNat : Int)) ∧ W.cell? ⟨nw, t, none⟩ = some (.int .u32 (ww.toNat : Int)))) (by kernel_rfl) st20 (fun hHeld => ?_)
          refine tkH 0 (some 138) ?_ rfl (Or.inl ⟨by rfl, ?_⟩) ?_; rotate_left
          · intro w hSw; (try dsimp only at hSw); go_simp <;> with_reducible rfl
          try simp only [Act.put, aS, aZ, aC]
          refine tkH 1 (some 139) ?_ rfl (Or.inl ⟨by rfl, ?_⟩) ?_; rotate_left
          · intro w hSw; (try dsimp only at hSw); go_simp <;> with_reducible rfl
          try simp only [Act.put, aS, aZ, aC]
          refine tkH 3 (some 141) ?_ rfl (Or.inl ⟨by rfl, ?_⟩) ?_; rotate_left
          · intro w hSw; (try dsimp only at hSw); go_simp <;> with_reducible rfl
          try simp only [Act.put, aS, aZ, aC]
          refine tkH 4 (some 142) ?_ rfl (Or.inl ⟨by rfl, ?_⟩) ?_; rotate_left
          · intro w hSw; (try dsimp only at hSw); go_simp <;> with_reducible rfl
          try simp only [Act.put, aS, aZ, aC]
          refine tkH 7 (some 145) ?_ rfl (Or.inl ⟨by rfl, ?_⟩) ?_; rotate_left
          · intro w hSw; (try dsimp only at hSw); go_simp <;> with_reducible rfl
          try simp only [Act.put, aS, aZ, aC]
          refine tkH 8 (some 146) ?_ rfl (Or.inl ⟨by rfl, ?_⟩) ?_; rotate_left
          · intro w hSw; (try dsimp only at hSw); go_simp <;> with_reducible rfl
          try simp only [Act.put, aS, aZ, aC]
          refine tkH 11 (some 149) ?_ rfl (Or.inl ⟨by rfl, ?_⟩) ?_; rotate_left
          · intro w hSw; (try dsimp only at hSw); go_simp <;> with_reducible rfl
          try simp only [Act.put, aS, aZ, aC]
          refine wpAnyH_ready (rs := [2]) (by kernel_rfl) (by simp) ?_
          refine AllReadyH.cons (o := ⟨some 140, _, _, _, _, _⟩) rfl (fun K hK => ?_) AllReadyH.nil
          go_simp
          refine (cT.out r.a 2 _ (by simp)).mono ?_
          rintro e w' ⟨rfl, rfl⟩
          rw [har2.out]
          refine hK.out _ _ (by assumption) (fun hHeld => ?_)
          clear hK K
          try simp only [Act.put, aS, aZ, aC]
          refine wpAnyH_ready (rs := [5]) (by kernel_rfl) (by simp) ?_
          refine AllReadyH.cons (o := ⟨some 143, _, _, _, _, _⟩) rfl (fun K hK => ?_) AllReadyH.nil
          go_simp
          refine (cT.out r.a 13 _ (by simp)).mono ?_
          rintro e w' ⟨rfl, rfl⟩
          rw [har13.out]
          refine hK.out _ _ (by assumption) (fun hHeld => ?_)
          clear hK K
          try simp only [Act.put, aS, aZ, aC]
          refine tkH 6 (some 144) ?_ rfl (Or.inl ⟨by rfl, ?_⟩) ?_; rotate_left
          · intro w hSw; (try dsimp only at hSw); go_simp <;> with_reducible rfl
          try simp only [Act.put, aS, aZ, aC]
          refine wpAnyH_ready (rs := [9]) (by kernel_rfl) (by simp) ?_
          refine AllReadyH.cons (o := ⟨some 147, _, _, _, _, _⟩) rfl (fun K hK => ?_) AllReadyH.nil
          go_simp
          refine (cT.out r.a 22 _ (by simp)).mono ?_
          rintro e w' ⟨rfl, rfl⟩
          rw [har22.out]
          refine hK.out _ _ (by assumption) (fun hHeld => ?_)
          clear hK K
          try simp only [Act.put, aS, aZ, aC]
          refine tkH 10 (some 148) ?_ rfl (Or.inl ⟨by rfl, ?_⟩) ?_; rotate_left
          · intro w hSw; (try dsimp only at hSw); go_simp <;> with_reducible rfl
          try simp only [Act.put, aS, aZ, aC]
          refine tkH 12 (some 150) ?_ rfl (Or.inl ⟨by rfl, ?_⟩) ?_; rotate_left
          · intro w hSw; (try dsimp only at hSw); go_simp <;> with_reducible rfl
          try simp only [Act.put, aS, aZ, aC]
          refine tkH 13 (some 16) ?_ rfl (Or.inl ⟨by rfl, ?_⟩) ?_; rotate_left
          · intro w hSw; (try dsimp only at hSw); go_simp <;> with_reducible rfl
          try simp only [Act.put, aS, aZ, aC]
          refine wpAnyH_done (by kernel_rfl) ?_ _
          skip
          clear hHeld
          obtain ⟨v0, v1, v2, v3, v4, v5, v6, v7, -, -⟩ := st20
          go_upto_region 16 with (refine wpList_store_mid rfl 114 _ _ rfl nv 0 (rowW (⟨Z0, r.a, r.b, r.c, Z4, r.e, r.f, r.g⟩ : H8).l) rfl rfl ht21 hi21 (one_rowW _) ?_)
          try simp only [Act.put]
          obtain ⟨W9, hW9⟩ : ∃ W : World, W = wr.drew.drew.setCells nv 0 (rowW (⟨Z0, r.a, r.b, r.c, Z4, r.e, r.f, r.g⟩ : H8).l).toList := ⟨_, rfl⟩
          rw [← hW9] at q0 q1 q2 qk qr qB ⊢
          clear hW9 ht21 hi21 v0 v1 v2 v3 v4 v5 v6 v7
          go_wp2_with (fail)
          exact ⟨⟨t + 1, by omega, by go_num, q0.out, q1.out, q2.out, qk.out, qr.out, qB.out⟩, by simp [RowKit.intOf]; omega⟩
        · obtain rfl : t = 64 := by omega
          obtain ⟨r, hr⟩ : ∃ r, run8 s WS 64 = r := ⟨_, rfl⟩
          rw [hr] at gr
          have hres := turn8_l s bl
          rw [hWS.out, hr] at hres
          obtain ⟨Oa, hOa⟩ : ∃ x : W32, s.a + r.a = x := ⟨_, rfl⟩
          have pa : IntKind.u32.wrap ((s.a.toNat : Int) + (r.a.toNat : Int)) = (Oa.toNat : Int) := by rw [← hOa]; exact addWr _ _
          obtain ⟨Ob, hOb⟩ : ∃ x : W32, s.b + r.b = x := ⟨_, rfl⟩
          have pb : IntKind.u32.wrap ((s.b.toNat : Int) + (r.b.toNat : Int)) = (Ob.toNat : Int) := by rw [← hOb]; exact addWr _ _
          obtain ⟨Oc, hOc⟩ : ∃ x : W32, s.c + r.c = x := ⟨_, rfl⟩
          have pc : IntKind.u32.wrap ((s.c.toNat : Int) + (r.c.toNat : Int)) = (Oc.toNat : Int) := by rw [← hOc]; exact addWr _ _
          obtain ⟨Od, hOd⟩ : ∃ x : W32, s.d + r.d = x := ⟨_, rfl⟩
          have pd : IntKind.u32.wrap ((s.d.toNat : Int) + (r.d.toNat : Int)) = (Od.toNat : Int) := by rw [← hOd]; exact addWr _ _
          obtain ⟨Oe, hOe⟩ : ∃ x : W32, s.e + r.e = x := ⟨_, rfl⟩
          have pe : IntKind.u32.wrap ((s.e.toNat : Int) + (r.e.toNat : Int)) = (Oe.toNat : Int) := by rw [← hOe]; exact addWr _ _
          obtain ⟨Of, hOf⟩ : ∃ x : W32, s.f + r.f = x := ⟨_, rfl⟩
          have pf : IntKind.u32.wrap ((s.f.toNat : Int) + (r.f.toNat : Int)) = (Of.toNat : Int) := by rw [← hOf]; exact addWr _ _
          obtain ⟨Og, hOg⟩ : ∃ x : W32, s.g + r.g = x := ⟨_, rfl⟩
          have pg : IntKind.u32.wrap ((s.g.toNat : Int) + (r.g.toNat : Int)) = (Og.toNat : Int) := by rw [← hOg]; exact addWr _ _
          obtain ⟨Oh, hOh⟩ : ∃ x : W32, s.h + r.h = x := ⟨_, rfl⟩
          have ph : IntKind.u32.wrap ((s.h.toNat : Int) + (r.h.toNat : Int)) = (Oh.toNat : Int) := by rw [← hOh]; exact addWr _ _
          rw [hOa, hOb, hOc, hOd, hOe, hOf, hOg, hOh] at hres
          have un := (Upd.refl g1).setCells (rowW [Oa, Ob, Oc, Od, Oe, Of, Og, Oh]).toList (by rw [Array.length_toList, rowW_size]; rfl)
          have ht22 : wr.there (n₀ + 1) 0 (rowW [Oa, Ob, Oc, Od, Oe, Of, Og, Oh]).size := there_blk g1 (by rw [rowW_size]; rfl)
          have hi22 : (Try.prog.info? 114).map (·.size) = some (rowW [Oa, Ob, Oc, Od, Oe, Of, Og, Oh]).size := by kernel_rfl
          have B9 := un.below hB (by omega)
          have u2 := un.here
          rw [Array.toArray_toList] at u2
          have c0 : wr.cell? ⟨n₀, 0, none⟩ = some (.int .u32 (s.a.toNat : Int)) := cell_blk (i := 0) g0 rfl
          have d0 : wr.cell? ⟨nv, 0, none⟩ = some (.int .u32 (r.a.toNat : Int)) := cell_blk (i := 0) gr rfl
          have c1 : wr.cell? ⟨n₀, 1, none⟩ = some (.int .u32 (s.b.toNat : Int)) := cell_blk (i := 1) g0 rfl
          have d1 : wr.cell? ⟨nv, 1, none⟩ = some (.int .u32 (r.b.toNat : Int)) := cell_blk (i := 1) gr rfl
          have c2 : wr.cell? ⟨n₀, 2, none⟩ = some (.int .u32 (s.c.toNat : Int)) := cell_blk (i := 2) g0 rfl
          have d2 : wr.cell? ⟨nv, 2, none⟩ = some (.int .u32 (r.c.toNat : Int)) := cell_blk (i := 2) gr rfl
          have c3 : wr.cell? ⟨n₀, 3, none⟩ = some (.int .u32 (s.d.toNat : Int)) := cell_blk (i := 3) g0 rfl
          have d3 : wr.cell? ⟨nv, 3, none⟩ = some (.int .u32 (r.d.toNat : Int)) := cell_blk (i := 3) gr rfl
          have c4 : wr.cell? ⟨n₀, 4, none⟩ = some (.int .u32 (s.e.toNat : Int)) := cell_blk (i := 4) g0 rfl
          have d4 : wr.cell? ⟨nv, 4, none⟩ = some (.int .u32 (r.e.toNat : Int)) := cell_blk (i := 4) gr rfl
          have c5 : wr.cell? ⟨n₀, 5, none⟩ = some (.int .u32 (s.f.toNat : Int)) := cell_blk (i := 5) g0 rfl
          have d5 : wr.cell? ⟨nv, 5, none⟩ = some (.int .u32 (r.f.toNat : Int)) := cell_blk (i := 5) gr rfl
          have c6 : wr.cell? ⟨n₀, 6, none⟩ = some (.int .u32 (s.g.toNat : Int)) := cell_blk (i := 6) g0 rfl
          have d6 : wr.cell? ⟨nv, 6, none⟩ = some (.int .u32 (r.g.toNat : Int)) := cell_blk (i := 6) gr rfl
          have c7 : wr.cell? ⟨n₀, 7, none⟩ = some (.int .u32 (s.h.toNat : Int)) := cell_blk (i := 7) g0 rfl
          have d7 : wr.cell? ⟨nv, 7, none⟩ = some (.int .u32 (r.h.toNat : Int)) := cell_blk (i := 7) gr rfl
          replace hres := hid hres
          clear un hr g0 g1 g2 gk gr hB hOa hOb hOc hOd hOe hOf hOg hOh
          go_wp2_with (refine wpList_store_mid rfl 114 _ _ rfl (n₀ + 1) 0 (rowW [Oa, Ob, Oc, Od, Oe, Of, Og, Oh]) rfl rfl ht22 hi22 (one_rowW _) ?_)
          exact outRow (ty := 114) rfl u2 rfl rfl (by kernel_rfl) (by rw [rowW_size]; kernel_rfl) ⟨by rw [hres.out], hn₀ ▸ B9⟩
end Go.Proofs.Ytomgjapjeckokaa
namespace Go.Proofs.Ytomgjapjeckokaa
open Go.RowKit Go.Shelf Go.Lib

set_option maxRecDepth 100000 in
set_option maxHeartbeats 1000000 in
theorem rSum_any (bl : List UInt8) (v : Value) (w : World) (hs : Sl w 1 encU v bl) (hb : bl.length ≤ 100000) :
    Calls Try.prog 70 #[v] w fun e w' => e = .returned (.agg (rowU (shaS bl))) ∧ Below w.heap.size w w' := by
  obtain ⟨i0, hi, hz0, hz1, hz2⟩ := infoU8_parts
  obtain ⟨pb, cb, rfl, -⟩ := hs.shape
  obtain ⟨n₀, hn₀⟩ : ∃ n, w.heap.size = n := ⟨_, rfl⟩
  have g1 := World.alloc_heap_new w (.cells #[.int .u8 0, .int .u8 0, .int .u8 0, .int .u8 0, .int .u8 0, .int .u8 0, .int .u8 0, .int .u8 0, .int .u8 0, .int .u8 0, .int .u8 0, .int .u8 0, .int .u8 0, .int .u8 0, .int .u8 0, .int .u8 0, .int .u8 0, .int .u8 0, .int .u8 0, .int .u8 0, .int .u8 0, .int .u8 0, .int .u8 0, .int .u8 0, .int .u8 0, .int .u8 0, .int .u8 0, .int .u8 0, .int .u8 0, .int .u8 0, .int .u8 0, .int .u8 0] 46)
  rw [hn₀] at g1
  have hz : (w.alloc (.cells #[.int .u8 0, .int .u8 0, .int .u8 0, .int .u8 0, .int .u8 0, .int .u8 0, .int .u8 0, .int .u8 0, .int .u8 0, .int .u8 0, .int .u8 0, .int .u8 0, .int .u8 0, .int .u8 0, .int .u8 0, .int .u8 0, .int .u8 0, .int .u8 0, .int .u8 0, .int .u8 0, .int .u8 0, .int .u8 0, .int .u8 0, .int .u8 0, .int .u8 0, .int .u8 0, .int .u8 0, .int .u8 0, .int .u8 0, .int .u8 0, .int .u8 0, .int .u8 0] 46)).heap.size = n₀ + 1 := by rw [World.size_alloc, hn₀]
  have s1 := (Kept.alloc 0 w (.cells #[.int .u8 0, .int .u8 0, .int .u8 0, .int .u8 0, .int .u8 0, .int .u8 0, .int .u8 0, .int .u8 0, .int .u8 0, .int .u8 0, .int .u8 0, .int .u8 0, .int .u8 0, .int .u8 0, .int .u8 0, .int .u8 0, .int .u8 0, .int .u8 0, .int .u8 0, .int .u8 0, .int .u8 0, .int .u8 0, .int .u8 0, .int .u8 0, .int .u8 0, .int .u8 0, .int .u8 0, .int .u8 0, .int .u8 0, .int .u8 0, .int .u8 0, .int .u8 0] 46)).sl hs
  have B1 : Below n₀ w (w.alloc (.cells #[.int .u8 0, .int .u8 0, .int .u8 0, .int .u8 0, .int .u8 0, .int .u8 0, .int .u8 0, .int .u8 0, .int .u8 0, .int .u8 0, .int .u8 0, .int .u8 0, .int .u8 0, .int .u8 0, .int .u8 0, .int .u8 0, .int .u8 0, .int .u8 0, .int .u8 0, .int .u8 0, .int .u8 0, .int .u8 0, .int .u8 0, .int .u8 0, .int .u8 0, .int .u8 0, .int .u8 0, .int .u8 0, .int .u8 0, .int .u8 0, .int .u8 0, .int .u8 0] 46)) := by rw [← hn₀]; exact (Below.refl _ w).alloc (Nat.le_refl _) _
  have hlw : IntKind.u64.wrap (bl.length : Int) = (bl.length : Int) := by simp [IntKind.wrap, IntKind.bits, IntKind.signed]; omega
  clear hs
  go_enter Try.func70, Try.ntmps70
  go_upto_region 1 with (fail)
  obtain ⟨W1, hW1⟩ : ∃ W : World, W = w.alloc (.cells #[.int .u8 0, .int .u8 0, .int .u8 0, .int .u8 0, .int .u8 0, .int .u8 0, .int .u8 0, .int .u8 0, .int .u8 0, .int .u8 0, .int .u8 0, .int .u8 0, .int .u8 0, .int .u8 0, .int .u8 0, .int .u8 0, .int .u8 0, .int .u8 0, .int .u8 0, .int .u8 0, .int .u8 0, .int .u8 0, .int .u8 0, .int .u8 0, .int .u8 0, .int .u8 0, .int .u8 0, .int .u8 0, .int .u8 0, .int .u8 0, .int .u8 0, .int .u8 0] 46) := ⟨_, rfl⟩
  rw [← hW1] at g1 hz s1 B1 ⊢
  clear hW1
  have sA := (Kept.alloc 0 W1 (.cells #[] 5)).sl s1
  have gA := (Kept.alloc 0 W1 (.cells #[] 5)).same _ _ g1 (.inl rfl)
  have BA := B1.alloc (by have := B1.size; omega) (.cells #[] 5)
  have hzA : (W1.alloc (.cells #[] 5)).heap.size = n₀ + 2 := by rw [World.size_alloc, hz]
  have oA := World.ownsRow_made (base := n₀ + 1) (e := 5) (size := 1) W1 #[] 0 (by omega) (Nat.zero_le _) rfl
  replace hzA := hid hzA
  replace hz := hid hz
  go_upto_block 0 with (at_builtin; first
    | (refine wpList_append_sl rfl _ _ 54 rfl (n₀ + 1) 5 i0 (.int .u8 0) 1 1 Try.underlying54 hi hz0 hz1 hz2 rfl (by decide) _ _ _ rfl oA encU _ bl rfl sA (encU_enc _) (by unfold maxLen; omega) (by omega) (by rw [hzA.out]; omega) ?_; intro v2 w2 o2 hg2 hn2)
    | (refine wpList_append_sl rfl _ _ 54 rfl (n₀ + 1) 5 i0 (.int .u8 0) 1 1 Try.underlying54 hi hz0 hz1 hz2 rfl (by decide) _ _ _ rfl ((Kept.alloc 0 w2 _).owns o2) encU _ [128] rfl (slU1 w2 128 _ _ rfl) (encU_enc _) (by unfold maxLen; simp only [List.length_singleton]; omega) (by simp only [List.length_singleton]; omega) (by have h1 := hg2.size; have h2 := hzA.out; simp; omega) ?_; intro v3 w3 o3 hg3 hn3))
  have o2' : w2.ownsRow (n₀ + 1) 5 1 v2 bl.length (bl.flatMap encU) := by simpa using o2
  have hzA2 := hzA.out
  have g2 := (hg2.block n₀ (by omega) (fun e => by simp [Value.ownBlock, Act.eval] at e; have := hz.out; omega)).trans gA
  have B2 := BA.grown hg2 (by omega) (fun j e => by simp [Value.ownBlock, Act.eval] at e; have := hz.out; omega)
  have hz2' : n₀ + 2 ≤ w2.heap.size := by have := hg2.size; omega
  have o3' : w3.ownsRow (n₀ + 1) 5 1 v3 (bl ++ [128]).length ((bl ++ [128]).flatMap encU) := by rw [List.length_append, List.flatMap_append]; simpa using o3
  have g3 := grown_blkI ((Kept.alloc 0 w2 (.cells #[.int .u8 128] 5)).owns o2) hg3 (show n₀ < n₀ + 1 by omega) ((Kept.alloc 0 w2 (.cells #[.int .u8 128] 5)).same _ _ g2 (.inl rfl))
  have B3 := (B2.alloc (by omega) (.cells #[.int .u8 128] 5)).grown hg3 (by rw [World.size_alloc]; omega) (fun j e => by have := own_baseI ((Kept.alloc 0 w2 (.cells #[.int .u8 128] 5)).owns o2) e; omega)
  have hn3' : v3 ≠ .slice none 0 0 := fun e => by have h9 := (hn3.1 e).2; cases h9
  clear o3 o2 o2' g2 hg2 hg3 hn2 hn3 B2 sA gA BA hzA hzA2 oA
  obtain ⟨L3, hL3⟩ : ∃ L, (bl ++ [128]).length = L := ⟨_, rfl⟩
  rw [hL3] at o3'
  obtain ⟨p3, c3, rfl, -, -⟩ := owns_shape o3'
  have hL3b : L3 = bl.length + 1 := by rw [← hL3]; simp
  have hL3c : L3 ≤ 100001 := by omega
  replace hL3 := hid hL3
  replace hL3b := hid hL3b
  go_wp2_with (fail)
  go_loopw [3] (fun bv wr => ∃ (k : Nat) (l : List UInt8), k ≤ padZ bl.length ∧ l = bl ++ [128] ++ List.replicate k 0 ∧ wr.ownsRow (n₀ + 1) 5 1 bv l.length (l.flatMap encU) ∧ bv ≠ .slice none 0 0 ∧ wr.heap[n₀]? = some (.cells #[.int .u8 0, .int .u8 0, .int .u8 0, .int .u8 0, .int .u8 0, .int .u8 0, .int .u8 0, .int .u8 0, .int .u8 0, .int .u8 0, .int .u8 0, .int .u8 0, .int .u8 0, .int .u8 0, .int .u8 0, .int .u8 0, .int .u8 0, .int .u8 0, .int .u8 0, .int .u8 0, .int .u8 0, .int .u8 0, .int .u8 0, .int .u8 0, .int .u8 0, .int .u8 0, .int .u8 0, .int .u8 0, .int .u8 0, .int .u8 0, .int .u8 0, .int .u8 0] 46 (0, 0)) ∧ Below n₀ w wr) (fun bv _ => bl.length + 200 - lenOf bv)
  case atStart => exact ⟨0, bl ++ [128], Nat.zero_le _, by rw [List.replicate_zero, List.append_nil], by rw [hL3.out]; exact o3', hn3', g3, B3⟩
  case round =>
    obtain ⟨k, l, hk, hle, oW, hnn, gW, hB⟩ := hrel
    clear o3' g3 B3 hn3'
    have hll : l.length = bl.length + 1 + k := by rw [hle]; simp; omega
    obtain ⟨hp1, hp2⟩ := padZ_is bl.length
    obtain ⟨pv, cv, rfl, -, -⟩ := owns_shape oW
    obtain ⟨L, hL⟩ : ∃ L, l.length = L := ⟨_, rfl⟩
    rw [hL] at oW hnn hll ⊢
    have hmod : ((L : Int).tmod 64) = ((L % 64 : Nat) : Int) := rfl
    have hLb : L ≤ 100064 := by omega
    have hLc : L ≤ bl.length + 64 := by omega
    by_cases hkz : k < padZ bl.length
    · have hne : ((L % 64 : Nat) : Int) ≠ 56 := by have := padZ_first bl.length k hkz; omega
      obtain ⟨M, hM⟩ : ∃ M : Int, ((L % 64 : Nat) : Int) = M := ⟨_, rfl⟩
      rw [hM] at hmod hne
      clear hM hp1
      replace hll := hid hll
      replace hle := hid hle
      replace hL := hid hL
      go_wp2_with (at_builtin; go_must (refine wpList_append_sl rfl _ _ 54 rfl (n₀ + 1) 5 i0 (.int .u8 0) 1 1 Try.underlying54 hi hz0 hz1 hz2 rfl (by decide) _ _ _ rfl ((Kept.alloc 0 wr _).owns oW) encU _ [0] rfl (slU1 wr (0) _ _ rfl) (encU_enc _) (by unfold maxLen; simp only [List.length_singleton]; omega) (by simp only [List.length_singleton]; omega) (by have := hB.size; have := (Array.getElem?_eq_some_iff.1 gW).1; simp; omega) ?_; intro v4 w4 o4 hg4 hn4))
      have o4' : w4.ownsRow (n₀ + 1) 5 1 v4 (l ++ [0]).length ((l ++ [0]).flatMap encU) := by rw [List.length_append, List.flatMap_append, hL.out]; exact o4
      have g4 := grown_blkI ((Kept.alloc 0 wr (.cells #[.int .u8 0] 5)).owns oW) hg4 (show n₀ < n₀ + 1 by omega) ((Kept.alloc 0 wr (.cells #[.int .u8 0] 5)).same _ _ gW (.inl rfl))
      have B4 := (hB.alloc (by have := hB.size; omega) (.cells #[.int .u8 0] 5)).grown hg4 (by rw [World.size_alloc]; have := hB.size; omega) (fun j e => by have := own_baseI ((Kept.alloc 0 wr (.cells #[.int .u8 0] 5)).owns oW) e; omega)
      have hn4' : v4 ≠ .slice none 0 0 := fun e => hnn (hn4.1 e).1
      obtain ⟨p4, c4, rfl, -, -⟩ := owns_shape o4'
      go_wp2_with (fail)
      refine ⟨?_, ?_⟩
      · first
        | exact ⟨k + 1, l ++ [0], by omega, by rw [hle.out, List.replicate_succ', ← List.append_assoc], o4', hn4', g4, B4⟩
        | ((repeat apply Exists.intro); refine ⟨?_, rfl⟩; exact ⟨k + 1, l ++ [0], by omega, by rw [hle.out, List.replicate_succ', ← List.append_assoc], o4', hn4', g4, B4⟩)
      · show _ - (l ++ [0]).length < _ - L; rw [List.length_append, hL.out]; simp only [List.length_singleton]; omega
    · obtain rfl : k = padZ bl.length := by omega
      have hM : ((L % 64 : Nat) : Int) = 56 := by omega
      rw [hM] at hmod
      clear hM
      replace hll := hid hll
      go_wp2_with (fail)
      go_loopw [3, 5] (fun bv iv wr => ∃ (i : Nat) (m : List UInt8), i ≤ 8 ∧ iv = .int .i64 (56 - 8 * (i : Int)) ∧ m = l ++ (List.range i).map (lenB bl.length) ∧ wr.ownsRow (n₀ + 1) 5 1 bv m.length (m.flatMap encU) ∧ bv ≠ .slice none 0 0 ∧ wr.heap[n₀]? = some (.cells #[.int .u8 0, .int .u8 0, .int .u8 0, .int .u8 0, .int .u8 0, .int .u8 0, .int .u8 0, .int .u8 0, .int .u8 0, .int .u8 0, .int .u8 0, .int .u8 0, .int .u8 0, .int .u8 0, .int .u8 0, .int .u8 0, .int .u8 0, .int .u8 0, .int .u8 0, .int .u8 0, .int .u8 0, .int .u8 0, .int .u8 0, .int .u8 0, .int .u8 0, .int .u8 0, .int .u8 0, .int .u8 0, .int .u8 0, .int .u8 0, .int .u8 0, .int .u8 0] 46 (0, 0)) ∧ Below n₀ w wr) (fun _ iv _ => (RowKit.intOf iv + 8).toNat)
      case atStart => exact ⟨0, l, Nat.zero_le _, rfl, by simp, by rw [hL]; exact oW, hnn, gW, hB⟩
      case round =>
        obtain ⟨i, m, hi8, hiv, hme, oM, hnm, gM, hBM⟩ := hrel
        clear oW gW hB hnn
        have hml : m.length = L + i := by rw [hme]; simp [hL]
        obtain ⟨pm, cm, rfl, -, -⟩ := owns_shape oM
        obtain ⟨Q, hQ⟩ : ∃ Q, m.length = Q := ⟨_, rfl⟩
        rw [hQ] at oM hnm hml ⊢
        have hQb : Q ≤ 100072 := by omega
        replace hml := hid hml
        by_cases hilt : i < 8
        · have hiI : (i : Int) < 8 := by omega
          replace hme := hid hme
          replace hQ := hid hQ
          have h7 : i = 0 ∨ i = 1 ∨ i = 2 ∨ i = 3 ∨ i = 4 ∨ i = 5 ∨ i = 6 ∨ i = 7 := by omega
          rcases h7 with rfl | rfl | rfl | rfl | rfl | rfl | rfl | rfl
          · have hiv' : _ = Value.int .i64 56 := hiv
            subst hiv'
            clear hiv
            go_wp2_with (at_builtin; go_must (refine wpList_append_sl rfl _ _ 54 rfl (n₀ + 1) 5 i0 (.int .u8 0) 1 1 Try.underlying54 hi hz0 hz1 hz2 rfl (by decide) _ _ _ rfl ((Kept.alloc 0 wr _).owns oM) encU _ [lenB bl.length 0] rfl (slU1 wr (lenB bl.length 0) _ _ (by congr 1; simp only [lenB, UInt8.toNat_ofNat']; omega)) (encU_enc _) (by unfold maxLen; simp only [List.length_singleton]; omega) (by simp only [List.length_singleton]; omega) (by have := hBM.size; have := (Array.getElem?_eq_some_iff.1 gM).1; simp; omega) ?_; intro v5 w5 o5 hg5 hn5))
            have o5' : w5.ownsRow (n₀ + 1) 5 1 v5 (m ++ [lenB bl.length 0]).length ((m ++ [lenB bl.length 0]).flatMap encU) := by rw [List.length_append, List.flatMap_append, hQ.out]; exact o5
            have g5 := grown_blkI ((Kept.alloc 0 wr _).owns oM) hg5 (show n₀ < n₀ + 1 by omega) ((Kept.alloc 0 wr _).same _ _ gM (.inl rfl))
            have B5 := (hBM.alloc (by have := hBM.size; omega) _).grown hg5 (by rw [World.size_alloc]; have := hBM.size; omega) (fun j e => by have := own_baseI oM e; omega)
            have hn5' : v5 ≠ .slice none 0 0 := fun e => hnm (hn5.1 e).1
            obtain ⟨p5, c5, rfl, -, -⟩ := owns_shape o5'
            go_wp2_with (fail)
            refine ⟨?_, ?_⟩
            · first
              | exact ⟨1, m ++ [lenB bl.length 0], by omega, rfl, by rw [hme.out]; simp [List.range_succ], o5', hn5', g5, B5⟩
              | ((repeat apply Exists.intro); refine ⟨?_, rfl⟩; exact ⟨1, m ++ [lenB bl.length 0], by omega, rfl, by rw [hme.out]; simp [List.range_succ], o5', hn5', g5, B5⟩)
            · simp [RowKit.intOf]
          · have hiv' : _ = Value.int .i64 48 := hiv
            subst hiv'
            clear hiv
            go_wp2_with (at_builtin; go_must (refine wpList_append_sl rfl _ _ 54 rfl (n₀ + 1) 5 i0 (.int .u8 0) 1 1 Try.underlying54 hi hz0 hz1 hz2 rfl (by decide) _ _ _ rfl ((Kept.alloc 0 wr _).owns oM) encU _ [lenB bl.length 1] rfl (slU1 wr (lenB bl.length 1) _ _ (by congr 1; simp only [lenB, UInt8.toNat_ofNat']; omega)) (encU_enc _) (by unfold maxLen; simp only [List.length_singleton]; omega) (by simp only [List.length_singleton]; omega) (by have := hBM.size; have := (Array.getElem?_eq_some_iff.1 gM).1; simp; omega) ?_; intro v5 w5 o5 hg5 hn5))
            have o5' : w5.ownsRow (n₀ + 1) 5 1 v5 (m ++ [lenB bl.length 1]).length ((m ++ [lenB bl.length 1]).flatMap encU) := by rw [List.length_append, List.flatMap_append, hQ.out]; exact o5
            have g5 := grown_blkI ((Kept.alloc 0 wr _).owns oM) hg5 (show n₀ < n₀ + 1 by omega) ((Kept.alloc 0 wr _).same _ _ gM (.inl rfl))
            have B5 := (hBM.alloc (by have := hBM.size; omega) _).grown hg5 (by rw [World.size_alloc]; have := hBM.size; omega) (fun j e => by have := own_baseI oM e; omega)
            have hn5' : v5 ≠ .slice none 0 0 := fun e => hnm (hn5.1 e).1
            obtain ⟨p5, c5, rfl, -, -⟩ := owns_shape o5'
            go_wp2_with (fail)
            refine ⟨?_, ?_⟩
            · first
              | exact ⟨2, m ++ [lenB bl.length 1], by omega, rfl, by rw [hme.out]; simp [List.range_succ], o5', hn5', g5, B5⟩
              | ((repeat apply Exists.intro); refine ⟨?_, rfl⟩; exact ⟨2, m ++ [lenB bl.length 1], by omega, rfl, by rw [hme.out]; simp [List.range_succ], o5', hn5', g5, B5⟩)
            · simp [RowKit.intOf]
          · have hiv' : _ = Value.int .i64 40 := hiv
            subst hiv'
            clear hiv
            go_wp2_with (at_builtin; go_must (refine wpList_append_sl rfl _ _ 54 rfl (n₀ + 1) 5 i0 (.int .u8 0) 1 1 Try.underlying54 hi hz0 hz1 hz2 rfl (by decide) _ _ _ rfl ((Kept.alloc 0 wr _).owns oM) encU _ [lenB bl.length 2] rfl (slU1 wr (lenB bl.length 2) _ _ (by congr 1; simp only [lenB, UInt8.toNat_ofNat']; omega)) (encU_enc _) (by unfold maxLen; simp only [List.length_singleton]; omega) (by simp only [List.length_singleton]; omega) (by have := hBM.size; have := (Array.getElem?_eq_some_iff.1 gM).1; simp; omega) ?_; intro v5 w5 o5 hg5 hn5))
            have o5' : w5.ownsRow (n₀ + 1) 5 1 v5 (m ++ [lenB bl.length 2]).length ((m ++ [lenB bl.length 2]).flatMap encU) := by rw [List.length_append, List.flatMap_append, hQ.out]; exact o5
            have g5 := grown_blkI ((Kept.alloc 0 wr _).owns oM) hg5 (show n₀ < n₀ + 1 by omega) ((Kept.alloc 0 wr _).same _ _ gM (.inl rfl))
            have B5 := (hBM.alloc (by have := hBM.size; omega) _).grown hg5 (by rw [World.size_alloc]; have := hBM.size; omega) (fun j e => by have := own_baseI oM e; omega)
            have hn5' : v5 ≠ .slice none 0 0 := fun e => hnm (hn5.1 e).1
            obtain ⟨p5, c5, rfl, -, -⟩ := owns_shape o5'
            go_wp2_with (fail)
            refine ⟨?_, ?_⟩
            · first
              | exact ⟨3, m ++ [lenB bl.length 2], by omega, rfl, by rw [hme.out]; simp [List.range_succ], o5', hn5', g5, B5⟩
              | ((repeat apply Exists.intro); refine ⟨?_, rfl⟩; exact ⟨3, m ++ [lenB bl.length 2], by omega, rfl, by rw [hme.out]; simp [List.range_succ], o5', hn5', g5, B5⟩)
            · simp [RowKit.intOf]
          · have hiv' : _ = Value.int .i64 32 := hiv
            subst hiv'
            clear hiv
            go_wp2_with (at_builtin; go_must (refine wpList_append_sl rfl _ _ 54 rfl (n₀ + 1) 5 i0 (.int .u8 0) 1 1 Try.underlying54 hi hz0 hz1 hz2 rfl (by decide) _ _ _ rfl ((Kept.alloc 0 wr _).owns oM) encU _ [lenB bl.length 3] rfl (slU1 wr (lenB bl.length 3) _ _ (by congr 1; simp only [lenB, UInt8.toNat_ofNat']; omega)) (encU_enc _) (by unfold maxLen; simp only [List.length_singleton]; omega) (by simp only [List.length_singleton]; omega) (by have := hBM.size; have := (Array.getElem?_eq_some_iff.1 gM).1; simp; omega) ?_; intro v5 w5 o5 hg5 hn5))
            have o5' : w5.ownsRow (n₀ + 1) 5 1 v5 (m ++ [lenB bl.length 3]).length ((m ++ [lenB bl.length 3]).flatMap encU) := by rw [List.length_append, List.flatMap_append, hQ.out]; exact o5
            have g5 := grown_blkI ((Kept.alloc 0 wr _).owns oM) hg5 (show n₀ < n₀ + 1 by omega) ((Kept.alloc 0 wr _).same _ _ gM (.inl rfl))
            have B5 := (hBM.alloc (by have := hBM.size; omega) _).grown hg5 (by rw [World.size_alloc]; have := hBM.size; omega) (fun j e => by have := own_baseI oM e; omega)
            have hn5' : v5 ≠ .slice none 0 0 := fun e => hnm (hn5.1 e).1
            obtain ⟨p5, c5, rfl, -, -⟩ := owns_shape o5'
            go_wp2_with (fail)
            refine ⟨?_, ?_⟩
            · first
              | exact ⟨4, m ++ [lenB bl.length 3], by omega, rfl, by rw [hme.out]; simp [List.range_succ], o5', hn5', g5, B5⟩
              | ((repeat apply Exists.intro); refine ⟨?_, rfl⟩; exact ⟨4, m ++ [lenB bl.length 3], by omega, rfl, by rw [hme.out]; simp [List.range_succ], o5', hn5', g5, B5⟩)
            · simp [RowKit.intOf]
          · have hiv' : _ = Value.int .i64 24 := hiv
            subst hiv'
            clear hiv
            go_wp2_with (at_builtin; go_must (refine wpList_append_sl rfl _ _ 54 rfl (n₀ + 1) 5 i0 (.int .u8 0) 1 1 Try.underlying54 hi hz0 hz1 hz2 rfl (by decide) _ _ _ rfl ((Kept.alloc 0 wr _).owns oM) encU _ [lenB bl.length 4] rfl (slU1 wr (lenB bl.length 4) _ _ (by congr 1; simp only [lenB, UInt8.toNat_ofNat']; omega)) (encU_enc _) (by unfold maxLen; simp only [List.length_singleton]; omega) (by simp only [List.length_singleton]; omega) (by have := hBM.size; have := (Array.getElem?_eq_some_iff.1 gM).1; simp; omega) ?_; intro v5 w5 o5 hg5 hn5))
            have o5' : w5.ownsRow (n₀ + 1) 5 1 v5 (m ++ [lenB bl.length 4]).length ((m ++ [lenB bl.length 4]).flatMap encU) := by rw [List.length_append, List.flatMap_append, hQ.out]; exact o5
            have g5 := grown_blkI ((Kept.alloc 0 wr _).owns oM) hg5 (show n₀ < n₀ + 1 by omega) ((Kept.alloc 0 wr _).same _ _ gM (.inl rfl))
            have B5 := (hBM.alloc (by have := hBM.size; omega) _).grown hg5 (by rw [World.size_alloc]; have := hBM.size; omega) (fun j e => by have := own_baseI oM e; omega)
            have hn5' : v5 ≠ .slice none 0 0 := fun e => hnm (hn5.1 e).1
            obtain ⟨p5, c5, rfl, -, -⟩ := owns_shape o5'
            go_wp2_with (fail)
            refine ⟨?_, ?_⟩
            · first
              | exact ⟨5, m ++ [lenB bl.length 4], by omega, rfl, by rw [hme.out]; simp [List.range_succ], o5', hn5', g5, B5⟩
              | ((repeat apply Exists.intro); refine ⟨?_, rfl⟩; exact ⟨5, m ++ [lenB bl.length 4], by omega, rfl, by rw [hme.out]; simp [List.range_succ], o5', hn5', g5, B5⟩)
            · simp [RowKit.intOf]
          · have hiv' : _ = Value.int .i64 16 := hiv
            subst hiv'
            clear hiv
            go_wp2_with (at_builtin; go_must (refine wpList_append_sl rfl _ _ 54 rfl (n₀ + 1) 5 i0 (.int .u8 0) 1 1 Try.underlying54 hi hz0 hz1 hz2 rfl (by decide) _ _ _ rfl ((Kept.alloc 0 wr _).owns oM) encU _ [lenB bl.length 5] rfl (slU1 wr (lenB bl.length 5) _ _ (by congr 1; simp only [lenB, UInt8.toNat_ofNat']; omega)) (encU_enc _) (by unfold maxLen; simp only [List.length_singleton]; omega) (by simp only [List.length_singleton]; omega) (by have := hBM.size; have := (Array.getElem?_eq_some_iff.1 gM).1; simp; omega) ?_; intro v5 w5 o5 hg5 hn5))
            have o5' : w5.ownsRow (n₀ + 1) 5 1 v5 (m ++ [lenB bl.length 5]).length ((m ++ [lenB bl.length 5]).flatMap encU) := by rw [List.length_append, List.flatMap_append, hQ.out]; exact o5
            have g5 := grown_blkI ((Kept.alloc 0 wr _).owns oM) hg5 (show n₀ < n₀ + 1 by omega) ((Kept.alloc 0 wr _).same _ _ gM (.inl rfl))
            have B5 := (hBM.alloc (by have := hBM.size; omega) _).grown hg5 (by rw [World.size_alloc]; have := hBM.size; omega) (fun j e => by have := own_baseI oM e; omega)
            have hn5' : v5 ≠ .slice none 0 0 := fun e => hnm (hn5.1 e).1
            obtain ⟨p5, c5, rfl, -, -⟩ := owns_shape o5'
            go_wp2_with (fail)
            refine ⟨?_, ?_⟩
            · first
              | exact ⟨6, m ++ [lenB bl.length 5], by omega, rfl, by rw [hme.out]; simp [List.range_succ], o5', hn5', g5, B5⟩
              | ((repeat apply Exists.intro); refine ⟨?_, rfl⟩; exact ⟨6, m ++ [lenB bl.length 5], by omega, rfl, by rw [hme.out]; simp [List.range_succ], o5', hn5', g5, B5⟩)
            · simp [RowKit.intOf]
          · have hiv' : _ = Value.int .i64 8 := hiv
            subst hiv'
            clear hiv
            go_wp2_with (at_builtin; go_must (refine wpList_append_sl rfl _ _ 54 rfl (n₀ + 1) 5 i0 (.int .u8 0) 1 1 Try.underlying54 hi hz0 hz1 hz2 rfl (by decide) _ _ _ rfl ((Kept.alloc 0 wr _).owns oM) encU _ [lenB bl.length 6] rfl (slU1 wr (lenB bl.length 6) _ _ (by congr 1; simp only [lenB, UInt8.toNat_ofNat']; omega)) (encU_enc _) (by unfold maxLen; simp only [List.length_singleton]; omega) (by simp only [List.length_singleton]; omega) (by have := hBM.size; have := (Array.getElem?_eq_some_iff.1 gM).1; simp; omega) ?_; intro v5 w5 o5 hg5 hn5))
            have o5' : w5.ownsRow (n₀ + 1) 5 1 v5 (m ++ [lenB bl.length 6]).length ((m ++ [lenB bl.length 6]).flatMap encU) := by rw [List.length_append, List.flatMap_append, hQ.out]; exact o5
            have g5 := grown_blkI ((Kept.alloc 0 wr _).owns oM) hg5 (show n₀ < n₀ + 1 by omega) ((Kept.alloc 0 wr _).same _ _ gM (.inl rfl))
            have B5 := (hBM.alloc (by have := hBM.size; omega) _).grown hg5 (by rw [World.size_alloc]; have := hBM.size; omega) (fun j e => by have := own_baseI oM e; omega)
            have hn5' : v5 ≠ .slice none 0 0 := fun e => hnm (hn5.1 e).1
            obtain ⟨p5, c5, rfl, -, -⟩ := owns_shape o5'
            go_wp2_with (fail)
            refine ⟨?_, ?_⟩
            · first
              | exact ⟨7, m ++ [lenB bl.length 6], by omega, rfl, by rw [hme.out]; simp [List.range_succ], o5', hn5', g5, B5⟩
              | ((repeat apply Exists.intro); refine ⟨?_, rfl⟩; exact ⟨7, m ++ [lenB bl.length 6], by omega, rfl, by rw [hme.out]; simp [List.range_succ], o5', hn5', g5, B5⟩)
            · simp [RowKit.intOf]
          · have hiv' : _ = Value.int .i64 0 := hiv
            subst hiv'
            clear hiv
            go_wp2_with (at_builtin; go_must (refine wpList_append_sl rfl _ _ 54 rfl (n₀ + 1) 5 i0 (.int .u8 0) 1 1 Try.underlying54 hi hz0 hz1 hz2 rfl (by decide) _ _ _ rfl ((Kept.alloc 0 wr _).owns oM) encU _ [lenB bl.length 7] rfl (slU1 wr (lenB bl.length 7) _ _ (by congr 1; simp only [lenB, UInt8.toNat_ofNat']; omega)) (encU_enc _) (by unfold maxLen; simp only [List.length_singleton]; omega) (by simp only [List.length_singleton]; omega) (by have := hBM.size; have := (Array.getElem?_eq_some_iff.1 gM).1; simp; omega) ?_; intro v5 w5 o5 hg5 hn5))
            have o5' : w5.ownsRow (n₀ + 1) 5 1 v5 (m ++ [lenB bl.length 7]).length ((m ++ [lenB bl.length 7]).flatMap encU) := by rw [List.length_append, List.flatMap_append, hQ.out]; exact o5
            have g5 := grown_blkI ((Kept.alloc 0 wr _).owns oM) hg5 (show n₀ < n₀ + 1 by omega) ((Kept.alloc 0 wr _).same _ _ gM (.inl rfl))
            have B5 := (hBM.alloc (by have := hBM.size; omega) _).grown hg5 (by rw [World.size_alloc]; have := hBM.size; omega) (fun j e => by have := own_baseI oM e; omega)
            have hn5' : v5 ≠ .slice none 0 0 := fun e => hnm (hn5.1 e).1
            obtain ⟨p5, c5, rfl, -, -⟩ := owns_shape o5'
            go_wp2_with (fail)
            refine ⟨?_, ?_⟩
            · first
              | exact ⟨8, m ++ [lenB bl.length 7], by omega, rfl, by rw [hme.out]; simp [List.range_succ], o5', hn5', g5, B5⟩
              | ((repeat apply Exists.intro); refine ⟨?_, rfl⟩; exact ⟨8, m ++ [lenB bl.length 7], by omega, rfl, by rw [hme.out]; simp [List.range_succ], o5', hn5', g5, B5⟩)
            · simp [RowKit.intOf]
        · obtain rfl : i = 8 := by omega
          have hiv' : _ = Value.int .i64 (-8) := hiv
          subst hiv'
          clear hiv
          have hpl : m = padL bl := by rw [hme, hle]; rfl
          obtain ⟨R, hR⟩ : ∃ R, Q = 64 * R := ⟨Q / 64, by have := hll.out; have := hml.out; omega⟩
          have hRb : R ≤ 2000 := by omega
          have hR0 : 0 < R := by have := hll.out; have := hml.out; omega
          have hmQ : m.length = Q := hQ
          replace hmQ := hid hmQ
          replace hR := hid hR
          clear hme hle hL
          replace hpl := hid hpl
          obtain ⟨nh, hnh⟩ : ∃ n, wr.heap.size = n := ⟨_, rfl⟩
          have hnh2 : n₀ + 1 ≤ nh := by have := (Array.getElem?_eq_some_iff.1 gM).1; omega
          have hk0 : rowW h0.l = #[.int .u32 1779033703, .int .u32 3144134277, .int .u32 1013904242, .int .u32 2773480762, .int .u32 1359893119, .int .u32 2600822924, .int .u32 528734635, .int .u32 1541459225] := by kernel_rfl
          have h7 := World.alloc_heap_new wr (.cells #[.int .u32 1779033703, .int .u32 3144134277, .int .u32 1013904242, .int .u32 2773480762, .int .u32 1359893119, .int .u32 2600822924, .int .u32 528734635, .int .u32 1541459225] 114)
          rw [hnh] at h7
          have g7 := (Kept.alloc 0 wr (.cells #[.int .u32 1779033703, .int .u32 3144134277, .int .u32 1013904242, .int .u32 2773480762, .int .u32 1359893119, .int .u32 2600822924, .int .u32 528734635, .int .u32 1541459225] 114)).same _ _ gM (.inl rfl)
          have o7 := (Kept.alloc 0 wr (.cells #[.int .u32 1779033703, .int .u32 3144134277, .int .u32 1013904242, .int .u32 2773480762, .int .u32 1359893119, .int .u32 2600822924, .int .u32 528734635, .int .u32 1541459225] 114)).owns oM
          have B7 := hBM.alloc (by have := hBM.size; omega) (.cells #[.int .u32 1779033703, .int .u32 3144134277, .int .u32 1013904242, .int .u32 2773480762, .int .u32 1359893119, .int .u32 2600822924, .int .u32 528734635, .int .u32 1541459225] 114)
          replace hk0 := hid hk0
          clear gM oM hBM
          go_wp2_with (fail)
          go_loopw [7] (fun iv wr => ∃ j J : Nat, j ≤ R ∧ J = 64 * j ∧ iv = .int .i64 J ∧ wr.heap[nh]? = some (.cells (rowW (sumH m j).l) 114 (0, 0)) ∧ wr.ownsRow (n₀ + 1) 5 1 (.slice pm Q cm) Q (m.flatMap encU) ∧ wr.heap[n₀]? = some (.cells #[.int .u8 0, .int .u8 0, .int .u8 0, .int .u8 0, .int .u8 0, .int .u8 0, .int .u8 0, .int .u8 0, .int .u8 0, .int .u8 0, .int .u8 0, .int .u8 0, .int .u8 0, .int .u8 0, .int .u8 0, .int .u8 0, .int .u8 0, .int .u8 0, .int .u8 0, .int .u8 0, .int .u8 0, .int .u8 0, .int .u8 0, .int .u8 0, .int .u8 0, .int .u8 0, .int .u8 0, .int .u8 0, .int .u8 0, .int .u8 0, .int .u8 0, .int .u8 0] 46 (0, 0)) ∧ Below n₀ w wr) (fun iv _ => Q - (RowKit.intOf iv).toNat)
          case atStart => exact ⟨0, 0, Nat.zero_le _, rfl, rfl, by show _ = some (Obj.cells (rowW h0.l) _ _); rw [hk0.out]; exact h7, o7, g7, B7⟩
          case round =>
            obtain ⟨j, J, hj, hJ, rfl, rH, rO, rG, rB⟩ := hrel
            clear h7 o7 g7 B7
            have hQR := hR.out
            by_cases hjR : j < R
            · have hJQ : J + 64 ≤ Q := by omega
              have hJI : (J : Int) + 64 ≤ (Q : Int) := by omega
              have hJI2 : (J : Int) < (Q : Int) := by omega
              obtain ⟨E, hE⟩ : ∃ E, J + 64 = E := ⟨_, rfl⟩
              have hJw : IntKind.i64.wrap ((J : Int) + 64) = (E : Int) := by rw [IntKind.wrap_i64]; omega
              have hJl : E - J = 64 := by omega
              have hsl := sl_of_owns (enc := encU) (l := m) (fun _ _ => rfl) (by rw [hmQ.out]; exact rO)
              obtain ⟨vb, vo, cp, hev, hv1, hv2, hv3⟩ := hsl.open (by intro h; have := hmQ.out; rw [h] at this; simp at this; omega)
              obtain ⟨rfl, -, rfl⟩ := Value.slice.inj hev
              have hQn : Q ≤ cm := by have := hmQ.out; omega
              have hQc : (E : Int) ≤ (cm : Int) := by omega
              have hQd : E ≤ cm := by omega
              have hJE : J ≤ E := by omega
              have hcJ : ¬ cm = J := by omega
              have hsub : Sl wr.drew 1 encU (.slice (some ⟨vb, vo + J, none⟩) 64 (cm - J)) ((m.drop J).take 64) := sl_sub (w := wr.drew) (by have := hmQ.out; omega) hv2 (by have := hmQ.out; omega) hv3
              have cT := hid (rblock_any (sumH m j) ((m.drop J).take 64) _ wr.drew (by rw [List.length_take, List.length_drop, hmQ.out]; omega) hsub)
              obtain ⟨s0, hs0⟩ : ∃ s, sumH m j = s := ⟨_, rfl⟩
              obtain ⟨sn, hsn⟩ : ∃ s, turn8 s0 ((m.drop J).take 64) = s := ⟨_, rfl⟩
              have hnx : sumH m (j + 1) = sn := by rw [sumH, hs0, ← hJ, hsn]
              rw [hs0, hsn] at cT
              simp only [rowW_l] at cT
              rw [hs0] at rH
              have c0 : wr.cell? ⟨nh, 0, none⟩ = some (.int .u32 (s0.a.toNat : Int)) := cell_blk (i := 0) rH rfl
              have c1 : wr.cell? ⟨nh, 1, none⟩ = some (.int .u32 (s0.b.toNat : Int)) := cell_blk (i := 1) rH rfl
              have c2 : wr.cell? ⟨nh, 2, none⟩ = some (.int .u32 (s0.c.toNat : Int)) := cell_blk (i := 2) rH rfl
              have c3 : wr.cell? ⟨nh, 3, none⟩ = some (.int .u32 (s0.d.toNat : Int)) := cell_blk (i := 3) rH rfl
              have c4 : wr.cell? ⟨nh, 4, none⟩ = some (.int .u32 (s0.e.toNat : Int)) := cell_blk (i := 4) rH rfl
              have c5 : wr.cell? ⟨nh, 5, none⟩ = some (.int .u32 (s0.f.toNat : Int)) := cell_blk (i := 5) rH rfl
              have c6 : wr.cell? ⟨nh, 6, none⟩ = some (.int .u32 (s0.g.toNat : Int)) := cell_blk (i := 6) rH rfl
              have c7 : wr.cell? ⟨nh, 7, none⟩ = some (.int .u32 (s0.h.toNat : Int)) := cell_blk (i := 7) rH rfl
              clear hsl hev hv1 hv2 hv3 hsub hs0 hsn hQR
              replace hnx := hid hnx
              replace hJ := hid hJ
              replace hE := hid hE
              go_upto_region 13 with (fail)
              refine wp_region_any (by kernel_rfl) ?_
              try (change wpAny _ _ _ _ _ _ _ (World.drew _))
              refine wpAny_take (i := 1) (oi := ⟨some 48, _, _, _, _, _⟩) (v := ?_) rfl (by kernel_rfl) (by kernel_rfl) (by kernel_rfl) (fun _ _ _ h => h) (Or.inl ⟨by rfl, ?_⟩) ?_
              rotate_left
              · intro w; go_simp <;> with_reducible rfl
              simp only [Act.put, List.setIfInBounds_toArray, List.set_cons_zero, List.set_cons_succ]
              refine wpAny_take (i := 2) (oi := ⟨some 49, _, _, _, _, _⟩) (v := ?_) rfl (by kernel_rfl) (by kernel_rfl) (by kernel_rfl) (fun _ _ _ h => h) (Or.inl ⟨by rfl, ?_⟩) ?_
              rotate_left
              · intro w; go_simp <;> with_reducible rfl
              simp only [Act.put, List.setIfInBounds_toArray, List.set_cons_zero, List.set_cons_succ]
              refine wpAny_take (i := 3) (oi := ⟨some 50, _, _, _, _, _⟩) (v := ?_) rfl (by kernel_rfl) (by kernel_rfl) (by kernel_rfl) (fun _ _ _ h => h) (Or.inl ⟨by rfl, ?_⟩) ?_
              rotate_left
              · intro w; go_simp <;> with_reducible rfl
              simp only [Act.put, List.setIfInBounds_toArray, List.set_cons_zero, List.set_cons_succ]
              refine wpAny_take (i := 4) (oi := ⟨some 51, _, _, _, _, _⟩) (v := ?_) rfl (by kernel_rfl) (by kernel_rfl) (by kernel_rfl) (fun _ _ _ h => h) (Or.inl ⟨by rfl, ?_⟩) ?_
              rotate_left
              · intro w; go_simp <;> with_reducible rfl
              simp only [Act.put, List.setIfInBounds_toArray, List.set_cons_zero, List.set_cons_succ]
              refine wpAny_take (i := 5) (oi := ⟨some 52, _, _, _, _, _⟩) (v := ?_) rfl (by kernel_rfl) (by kernel_rfl) (by kernel_rfl) (fun _ _ _ h => h) (Or.inl ⟨by rfl, ?_⟩) ?_
              rotate_left
              · intro w; go_simp <;> with_reducible rfl
              simp only [Act.put, List.setIfInBounds_toArray, List.set_cons_zero, List.set_cons_succ]
              refine wpAny_ready (rs := [0]) (by kernel_rfl) (by simp) ?_
              refine AllReady.cons (o := ⟨some 47, _, _, _, _, _⟩) rfl (fun K hK => ?_) AllReady.nil
              go_simp
              first | refine hK _ _ ?_ | refine ⟨trivial, hK _ _ ?_⟩ | refine ⟨fun _ _ => trivial, hK _ _ ?_⟩
              clear hK K
              refine wpAny_ready (rs := [6]) (by kernel_rfl) (by simp) ?_
              refine AllReady.cons (o := ⟨some 53, _, _, _, _, _⟩) rfl (fun K hK => ?_) AllReady.nil
              go_simp
              refine cT.out.mono ?_
              rintro e w9 ⟨rfl, b9⟩
              have k9 := Kept.of_below b9 0
              have g9 := k9.same _ _ (show wr.drew.heap[n₀]? = _ from rG) (.inl rfl)
              have r9 := k9.same _ _ (show wr.drew.heap[nh]? = _ from rH) (.inl rfl)
              have o9 := k9.owns ((Kept.drewN 0 wr 1).owns rO)
              have B9 := (rB.drewN 1).trans (b9.mono (by have h9 : wr.drew.heap.size = wr.heap.size := rfl; have := rB.size; omega))
              have x0 : w9.cell? ⟨nh, 0, none⟩ = some (.int .u32 (s0.a.toNat : Int)) := cell_blk (i := 0) r9 rfl
              have x1 : w9.cell? ⟨nh, 1, none⟩ = some (.int .u32 (s0.b.toNat : Int)) := cell_blk (i := 1) r9 rfl
              have x2 : w9.cell? ⟨nh, 2, none⟩ = some (.int .u32 (s0.c.toNat : Int)) := cell_blk (i := 2) r9 rfl
              have x3 : w9.cell? ⟨nh, 3, none⟩ = some (.int .u32 (s0.d.toNat : Int)) := cell_blk (i := 3) r9 rfl
              have x4 : w9.cell? ⟨nh, 4, none⟩ = some (.int .u32 (s0.e.toNat : Int)) := cell_blk (i := 4) r9 rfl
              have x5 : w9.cell? ⟨nh, 5, none⟩ = some (.int .u32 (s0.f.toNat : Int)) := cell_blk (i := 5) r9 rfl
              have x6 : w9.cell? ⟨nh, 6, none⟩ = some (.int .u32 (s0.g.toNat : Int)) := cell_blk (i := 6) r9 rfl
              have x7 : w9.cell? ⟨nh, 7, none⟩ = some (.int .u32 (s0.h.toNat : Int)) := cell_blk (i := 7) r9 rfl
              have fz : ∀ k, w9.frozen? ⟨nh, k, none⟩ = false := fun k => frozen_blk r9
              have u9 := (Upd.refl r9).setCells (rowW sn.l).toList (by rw [Array.length_toList, rowW_size, rowW_size]; rfl)
              have eN : w9.setCells nh 0 (rowW sn.l).toList = ((((((((w9.setCell ⟨nh, 0, none⟩ (.int .u32 (sn.a.toNat : Int))).setCell ⟨nh, 1, none⟩ (.int .u32 (sn.b.toNat : Int))).setCell ⟨nh, 2, none⟩ (.int .u32 (sn.c.toNat : Int))).setCell ⟨nh, 3, none⟩ (.int .u32 (sn.d.toNat : Int))).setCell ⟨nh, 4, none⟩ (.int .u32 (sn.e.toNat : Int))).setCell ⟨nh, 5, none⟩ (.int .u32 (sn.f.toNat : Int))).setCell ⟨nh, 6, none⟩ (.int .u32 (sn.g.toNat : Int))).setCell ⟨nh, 7, none⟩ (.int .u32 (sn.h.toNat : Int))) := rfl
              rw [eN] at u9
              have r10 := u9.here
              rw [Array.toArray_toList] at r10
              have g10 := (u9.off n₀ (by omega)).trans g9
              have B10 := u9.below B9 (by omega)
              have o10 := upd_owns u9 r9 (by decide) o9
              replace r10 := hid r10
              replace g10 := hid g10
              replace B10 := hid B10
              replace o10 := hid o10
              clear u9 eN g9 o9 B9 k9 b9 rG rH rO rB cT
              first | refine hK _ _ ?_ | refine ⟨trivial, hK _ _ ?_⟩ | refine ⟨fun _ _ => trivial, hK _ _ ?_⟩
              clear hK K
              refine wpAny_ready (rs := [7]) (by kernel_rfl) (by simp) ?_
              refine AllReady.cons (o := ⟨none, _, _, _, _, _⟩) rfl (fun K hK => ?_) AllReady.nil
              go_simp
              first | refine hK _ _ ?_ | refine ⟨trivial, hK _ _ ?_⟩ | refine ⟨fun _ _ => trivial, hK _ _ ?_⟩
              clear hK K
              refine wpAny_done (by kernel_rfl) ?_ _
              go_wp2_with (fail)
              refine ⟨?_, ?_⟩
              · first | exact ⟨j + 1, J + 64, by omega, by rw [hJ.out]; omega, by rw [hE.out], by rw [hnx.out]; exact r10.out, o10.out, g10.out, B10.out⟩ | ((repeat apply Exists.intro); refine ⟨?_, rfl⟩; exact ⟨j + 1, J + 64, by omega, by rw [hJ.out]; omega, by rw [hE.out], by rw [hnx.out]; exact r10.out, o10.out, g10.out, B10.out⟩)
              · simp [RowKit.intOf]; omega
            · obtain rfl : j = R := by omega
              obtain rfl : J = Q := by omega
              replace hJ := hid hJ
              obtain ⟨s9, hs9⟩ : ∃ s, sumH m j = s := ⟨_, rfl⟩
              rw [hs9] at rH
              have hres : shaS bl = outB s9 32 := by
                unfold shaS
                rw [← hpl.out, hmQ.out, hQR, Nat.mul_div_cancel_left _ (by decide), hs9]
              replace hres := hid hres
              have c0 : wr.cell? ⟨nh, 0, none⟩ = some (.int .u32 (s9.a.toNat : Int)) := cell_blk (i := 0) rH rfl
              have c1 : wr.cell? ⟨nh, 1, none⟩ = some (.int .u32 (s9.b.toNat : Int)) := cell_blk (i := 1) rH rfl
              have c2 : wr.cell? ⟨nh, 2, none⟩ = some (.int .u32 (s9.c.toNat : Int)) := cell_blk (i := 2) rH rfl
              have c3 : wr.cell? ⟨nh, 3, none⟩ = some (.int .u32 (s9.d.toNat : Int)) := cell_blk (i := 3) rH rfl
              have c4 : wr.cell? ⟨nh, 4, none⟩ = some (.int .u32 (s9.e.toNat : Int)) := cell_blk (i := 4) rH rfl
              have c5 : wr.cell? ⟨nh, 5, none⟩ = some (.int .u32 (s9.f.toNat : Int)) := cell_blk (i := 5) rH rfl
              have c6 : wr.cell? ⟨nh, 6, none⟩ = some (.int .u32 (s9.g.toNat : Int)) := cell_blk (i := 6) rH rfl
              have c7 : wr.cell? ⟨nh, 7, none⟩ = some (.int .u32 (s9.h.toNat : Int)) := cell_blk (i := 7) rH rfl
              obtain ⟨nl, hnl⟩ : ∃ n, wr.heap.size = n := ⟨_, rfl⟩
              have hnl2 : n₀ < nl := by have := (Array.getElem?_eq_some_iff.1 rG).1; omega
              have l1 := World.alloc_heap_new wr (.cells #[.int .u32 (s9.a.toNat : Int), .int .u32 (s9.b.toNat : Int), .int .u32 (s9.c.toNat : Int), .int .u32 (s9.d.toNat : Int), .int .u32 (s9.e.toNat : Int), .int .u32 (s9.f.toNat : Int), .int .u32 (s9.g.toNat : Int), .int .u32 (s9.h.toNat : Int)] 109)
              rw [hnl] at l1
              have l1' : (wr.alloc (.cells #[.int .u32 (s9.a.toNat : Int), .int .u32 (s9.b.toNat : Int), .int .u32 (s9.c.toNat : Int), .int .u32 (s9.d.toNat : Int), .int .u32 (s9.e.toNat : Int), .int .u32 (s9.f.toNat : Int), .int .u32 (s9.g.toNat : Int), .int .u32 (s9.h.toNat : Int)] 109)).heap[nl]? = some (.cells (rowW s9.l) 109 (0, 0)) := by rw [rowW_l]; exact l1
              have l0 := (Kept.alloc 0 wr (.cells #[.int .u32 (s9.a.toNat : Int), .int .u32 (s9.b.toNat : Int), .int .u32 (s9.c.toNat : Int), .int .u32 (s9.d.toNat : Int), .int .u32 (s9.e.toNat : Int), .int .u32 (s9.f.toNat : Int), .int .u32 (s9.g.toNat : Int), .int .u32 (s9.h.toNat : Int)] 109)).same _ _ rG (.inl rfl)
              have lB := rB.alloc (by have := rB.size; omega) (.cells #[.int .u32 (s9.a.toNat : Int), .int .u32 (s9.b.toNat : Int), .int .u32 (s9.c.toNat : Int), .int .u32 (s9.d.toNat : Int), .int .u32 (s9.e.toNat : Int), .int .u32 (s9.f.toNat : Int), .int .u32 (s9.g.toNat : Int), .int .u32 (s9.h.toNat : Int)] 109)
              have hzl : (wr.alloc (.cells #[.int .u32 (s9.a.toNat : Int), .int .u32 (s9.b.toNat : Int), .int .u32 (s9.c.toNat : Int), .int .u32 (s9.d.toNat : Int), .int .u32 (s9.e.toNat : Int), .int .u32 (s9.f.toNat : Int), .int .u32 (s9.g.toNat : Int), .int .u32 (s9.h.toNat : Int)] 109)).heap.size = nl + 1 := by rw [World.size_alloc, hnl]
              obtain ⟨nd, hnd⟩ : ∃ n, nl + 1 = n := ⟨_, rfl⟩
              have hnd2 : n₀ < nd := by omega
              have hnd3 : nl < nd := by omega
              go_upto_region 16 with (fail)
              obtain ⟨WL, hWL⟩ : ∃ W : World, W = wr.alloc (.cells #[.int .u32 (s9.a.toNat : Int), .int .u32 (s9.b.toNat : Int), .int .u32 (s9.c.toNat : Int), .int .u32 (s9.d.toNat : Int), .int .u32 (s9.e.toNat : Int), .int .u32 (s9.f.toNat : Int), .int .u32 (s9.g.toNat : Int), .int .u32 (s9.h.toNat : Int)] 109) := ⟨_, rfl⟩
              rw [← hWL] at l1' l0 lB hzl ⊢
              have d1 := World.alloc_heap_new WL (.cells #[.int .u8 0, .int .u8 0, .int .u8 0, .int .u8 0, .int .u8 0, .int .u8 0, .int .u8 0, .int .u8 0, .int .u8 0, .int .u8 0, .int .u8 0, .int .u8 0, .int .u8 0, .int .u8 0, .int .u8 0, .int .u8 0, .int .u8 0, .int .u8 0, .int .u8 0, .int .u8 0, .int .u8 0, .int .u8 0, .int .u8 0, .int .u8 0, .int .u8 0, .int .u8 0, .int .u8 0, .int .u8 0, .int .u8 0, .int .u8 0, .int .u8 0, .int .u8 0] 46)
              rw [hzl, hnd] at d1
              have d2 : (WL.alloc (.cells #[.int .u8 0, .int .u8 0, .int .u8 0, .int .u8 0, .int .u8 0, .int .u8 0, .int .u8 0, .int .u8 0, .int .u8 0, .int .u8 0, .int .u8 0, .int .u8 0, .int .u8 0, .int .u8 0, .int .u8 0, .int .u8 0, .int .u8 0, .int .u8 0, .int .u8 0, .int .u8 0, .int .u8 0, .int .u8 0, .int .u8 0, .int .u8 0, .int .u8 0, .int .u8 0, .int .u8 0, .int .u8 0, .int .u8 0, .int .u8 0, .int .u8 0, .int .u8 0] 46)).heap[nd]? = some (.cells (rowU (outB s9 (4 * 0))) 46 (0, 0)) := by rw [← zero32_is s9]; exact d1
              have d0 := (Kept.alloc 0 WL (.cells #[.int .u8 0, .int .u8 0, .int .u8 0, .int .u8 0, .int .u8 0, .int .u8 0, .int .u8 0, .int .u8 0, .int .u8 0, .int .u8 0, .int .u8 0, .int .u8 0, .int .u8 0, .int .u8 0, .int .u8 0, .int .u8 0, .int .u8 0, .int .u8 0, .int .u8 0, .int .u8 0, .int .u8 0, .int .u8 0, .int .u8 0, .int .u8 0, .int .u8 0, .int .u8 0, .int .u8 0, .int .u8 0, .int .u8 0, .int .u8 0, .int .u8 0, .int .u8 0] 46)).same _ _ l0 (.inl rfl)
              have dl := (Kept.alloc 0 WL (.cells #[.int .u8 0, .int .u8 0, .int .u8 0, .int .u8 0, .int .u8 0, .int .u8 0, .int .u8 0, .int .u8 0, .int .u8 0, .int .u8 0, .int .u8 0, .int .u8 0, .int .u8 0, .int .u8 0, .int .u8 0, .int .u8 0, .int .u8 0, .int .u8 0, .int .u8 0, .int .u8 0, .int .u8 0, .int .u8 0, .int .u8 0, .int .u8 0, .int .u8 0, .int .u8 0, .int .u8 0, .int .u8 0, .int .u8 0, .int .u8 0, .int .u8 0, .int .u8 0] 46)).same _ _ l1' (.inl rfl)
              have dB := lB.alloc (by have := lB.size; omega) (.cells #[.int .u8 0, .int .u8 0, .int .u8 0, .int .u8 0, .int .u8 0, .int .u8 0, .int .u8 0, .int .u8 0, .int .u8 0, .int .u8 0, .int .u8 0, .int .u8 0, .int .u8 0, .int .u8 0, .int .u8 0, .int .u8 0, .int .u8 0, .int .u8 0, .int .u8 0, .int .u8 0, .int .u8 0, .int .u8 0, .int .u8 0, .int .u8 0, .int .u8 0, .int .u8 0, .int .u8 0, .int .u8 0, .int .u8 0, .int .u8 0, .int .u8 0, .int .u8 0] 46)
              rw [hnd] at hzl
              obtain ⟨WD, hWD⟩ : ∃ W : World, W = WL.alloc (.cells #[.int .u8 0, .int .u8 0, .int .u8 0, .int .u8 0, .int .u8 0, .int .u8 0, .int .u8 0, .int .u8 0, .int .u8 0, .int .u8 0, .int .u8 0, .int .u8 0, .int .u8 0, .int .u8 0, .int .u8 0, .int .u8 0, .int .u8 0, .int .u8 0, .int .u8 0, .int .u8 0, .int .u8 0, .int .u8 0, .int .u8 0, .int .u8 0, .int .u8 0, .int .u8 0, .int .u8 0, .int .u8 0, .int .u8 0, .int .u8 0, .int .u8 0, .int .u8 0] 46) := ⟨_, rfl⟩
              try rw [← hWD] at d2 d0 dl dB ⊢
              clear rH rO rG rB d1 hs9 hQR l1 l1' l0 lB hWL hWD c0 c1 c2 c3 c4 c5 c6 c7
              go_wp2_with (fail)
              go_loopw [10] (fun iv wr => ∃ i : Nat, i ≤ 8 ∧ iv = .int .i64 i ∧ wr.heap[nl]? = some (.cells (rowW s9.l) 109 (0, 0)) ∧ wr.heap[nd]? = some (.cells (rowU (outB s9 (4 * i))) 46 (0, 0)) ∧ wr.heap[n₀]? = some (.cells #[.int .u8 0, .int .u8 0, .int .u8 0, .int .u8 0, .int .u8 0, .int .u8 0, .int .u8 0, .int .u8 0, .int .u8 0, .int .u8 0, .int .u8 0, .int .u8 0, .int .u8 0, .int .u8 0, .int .u8 0, .int .u8 0, .int .u8 0, .int .u8 0, .int .u8 0, .int .u8 0, .int .u8 0, .int .u8 0, .int .u8 0, .int .u8 0, .int .u8 0, .int .u8 0, .int .u8 0, .int .u8 0, .int .u8 0, .int .u8 0, .int .u8 0, .int .u8 0] 46 (0, 0)) ∧ Below n₀ w wr) (fun iv _ => 8 - (RowKit.intOf iv).toNat)
              case atStart => exact ⟨0, Nat.zero_le _, rfl, dl, d2, d0, dB⟩
              case round =>
                obtain ⟨i, hi8, rfl, el, e2, e0, eB⟩ := hrel
                clear d2 d0 dl dB
                by_cases hilt : i < 8
                · have hiI : (i : Int) < 8 := by omega
                  obtain ⟨x, hx⟩ : ∃ x, s9.l[i]? = some x := ⟨_, List.getElem?_eq_getElem (show i < 8 from hilt)⟩
                  have hxi : s9.l.getD i 0 = x := by rw [List.getD_eq_getElem?_getD, hx]; rfl
                  have hxr := hid (rowW_at hx)
                  have hw4 : IntKind.i64.wrap (4 * (i : Int)) = 4 * (i : Int) := by rw [IntKind.wrap_i64]; omega
                  clear hx
                  replace hxi := hid hxi
                  go_wp2_with (fail)
                  go_loopw [11] (fun kv wr => ∃ k : Nat, k ≤ 4 ∧ kv = .int .i64 k ∧ wr.heap[nl]? = some (.cells (rowW s9.l) 109 (0, 0)) ∧ wr.heap[nd]? = some (.cells (rowU (outB s9 (4 * i + k))) 46 (0, 0)) ∧ wr.heap[n₀]? = some (.cells #[.int .u8 0, .int .u8 0, .int .u8 0, .int .u8 0, .int .u8 0, .int .u8 0, .int .u8 0, .int .u8 0, .int .u8 0, .int .u8 0, .int .u8 0, .int .u8 0, .int .u8 0, .int .u8 0, .int .u8 0, .int .u8 0, .int .u8 0, .int .u8 0, .int .u8 0, .int .u8 0, .int .u8 0, .int .u8 0, .int .u8 0, .int .u8 0, .int .u8 0, .int .u8 0, .int .u8 0, .int .u8 0, .int .u8 0, .int .u8 0, .int .u8 0, .int .u8 0] 46 (0, 0)) ∧ Below n₀ w wr) (fun kv _ => 4 - (RowKit.intOf kv).toNat)
                  case atStart => exact ⟨0, Nat.zero_le _, rfl, el, e2, e0, eB⟩
                  case round =>
                    obtain ⟨k, hk4, rfl, ql, q2, q0, qB⟩ := hrel
                    clear e2 e0 eB el
                    have cx : wr.cell? ⟨nl, i, none⟩ = some (.int .u32 (x.toNat : Int)) := cell_blk ql hxr.out
                    replace hxi := hxi.out
                    by_cases hklt : k < 4
                    · have h7 : k = 0 ∨ k = 1 ∨ k = 2 ∨ k = 3 := by omega
                      obtain ⟨X, hX⟩ : ∃ X, 4 * i + k = X := ⟨_, rfl⟩
                      rw [hX] at q2
                      have hX3 : (X : Int) < 32 := by omega
                      obtain ⟨b, hbx⟩ : ∃ b, (outB s9 X)[X]? = some b := ⟨_, List.getElem?_eq_getElem (by rw [outB_len]; omega)⟩
                      have cb : wr.cell? ⟨nd, X, none⟩ = some (.int .u8 b.toNat) := cell_blk q2 (rowU_at hbx)
                      have fb := frozen_blk q2 (i := X)
                      clear hbx
                      rcases h7 with rfl | rfl | rfl | rfl
                      · obtain rfl : X = 4 * i := by omega
                        have hX4 : 4 * (i : Int) < 32 := by omega
                        have hb1 : ((x.toNat : Int) / 16777216) % 256 = ((byteW x 0).toNat : Int) := by
                          unfold byteW; rw [UInt8.toNat_ofNat']; have := x.isLt; omega
                        have hb2 : (x.toNat : Int) / 16777216 = ((byteW x 0).toNat : Int) := by
                          unfold byteW; rw [UInt8.toNat_ofNat']; have := x.isLt; omega
                        have q3 := setCell_blk (i := (4 * i)) (x := .int .u8 ((byteW x 0).toNat : Int)) q2
                        rw [rowU_set] at q3
                        have hset : (outB s9 (4 * i)).set (4 * i) (byteW x 0) = outB s9 (4 * i + 1) := by
                          have h9 := outB_set s9 (4 * i) (by omega)
                          rw [show (4 * i) / 4 = i by omega, show (4 * i) % 4 = 0 by omega, hxi] at h9
                          rw [h9, show (4 * i) + 1 = 4 * i + 1 by omega]
                        rw [hset] at q3
                        have q0' := (setCell_off (b := nd) (i := (4 * i)) (x := .int .u8 ((byteW x 0).toNat : Int)) (show n₀ ≠ nd by omega)).trans q0
                        have ql' := (setCell_off (b := nd) (i := (4 * i)) (x := .int .u8 ((byteW x 0).toNat : Int)) (show nl ≠ nd by omega)).trans ql
                        have qB' := qB.setCell (p := ⟨nd, (4 * i), none⟩) (show n₀ ≤ nd by omega) (.int .u8 ((byteW x 0).toNat : Int))
                        clear hset q2 q0 qB ql
                        try replace hX := hid hX
                        replace hxi := hid hxi
                        go_wp2_with (fail)
                        refine ⟨?_, ?_⟩
                        · first | exact ⟨1, by omega, rfl, ql', q3, q0', qB'⟩ | ((repeat apply Exists.intro); refine ⟨?_, rfl⟩; exact ⟨1, by omega, rfl, ql', q3, q0', qB'⟩)
                        · simp [RowKit.intOf]
                      · have hXw : IntKind.i64.wrap (4 * (i : Int) + 1) = (X : Int) := by rw [IntKind.wrap_i64]; omega
                        have hb1 : ((x.toNat : Int) / 65536) % 256 = ((byteW x 1).toNat : Int) := by
                          unfold byteW; rw [UInt8.toNat_ofNat']; have := x.isLt; omega
                        have q3 := setCell_blk (i := X) (x := .int .u8 ((byteW x 1).toNat : Int)) q2
                        rw [rowU_set] at q3
                        have hset : (outB s9 X).set X (byteW x 1) = outB s9 (4 * i + 2) := by
                          have h9 := outB_set s9 X (by omega)
                          rw [show X / 4 = i by omega, show X % 4 = 1 by omega, hxi] at h9
                          rw [h9, show X + 1 = 4 * i + 2 by omega]
                        rw [hset] at q3
                        have q0' := (setCell_off (b := nd) (i := X) (x := .int .u8 ((byteW x 1).toNat : Int)) (show n₀ ≠ nd by omega)).trans q0
                        have ql' := (setCell_off (b := nd) (i := X) (x := .int .u8 ((byteW x 1).toNat : Int)) (show nl ≠ nd by omega)).trans ql
                        have qB' := qB.setCell (p := ⟨nd, X, none⟩) (show n₀ ≤ nd by omega) (.int .u8 ((byteW x 1).toNat : Int))
                        clear hset q2 q0 qB ql
                        try replace hX := hid hX
                        replace hxi := hid hxi
                        go_wp2_with (fail)
                        refine ⟨?_, ?_⟩
                        · first | exact ⟨2, by omega, rfl, ql', q3, q0', qB'⟩ | ((repeat apply Exists.intro); refine ⟨?_, rfl⟩; exact ⟨2, by omega, rfl, ql', q3, q0', qB'⟩)
                        · simp [RowKit.intOf]
                      · have hXw : IntKind.i64.wrap (4 * (i : Int) + 2) = (X : Int) := by rw [IntKind.wrap_i64]; omega
                        have hb1 : ((x.toNat : Int) / 256) % 256 = ((byteW x 2).toNat : Int) := by
                          unfold byteW; rw [UInt8.toNat_ofNat']; have := x.isLt; omega
                        have q3 := setCell_blk (i := X) (x := .int .u8 ((byteW x 2).toNat : Int)) q2
                        rw [rowU_set] at q3
                        have hset : (outB s9 X).set X (byteW x 2) = outB s9 (4 * i + 3) := by
                          have h9 := outB_set s9 X (by omega)
                          rw [show X / 4 = i by omega, show X % 4 = 2 by omega, hxi] at h9
                          rw [h9, show X + 1 = 4 * i + 3 by omega]
                        rw [hset] at q3
                        have q0' := (setCell_off (b := nd) (i := X) (x := .int .u8 ((byteW x 2).toNat : Int)) (show n₀ ≠ nd by omega)).trans q0
                        have ql' := (setCell_off (b := nd) (i := X) (x := .int .u8 ((byteW x 2).toNat : Int)) (show nl ≠ nd by omega)).trans ql
                        have qB' := qB.setCell (p := ⟨nd, X, none⟩) (show n₀ ≤ nd by omega) (.int .u8 ((byteW x 2).toNat : Int))
                        clear hset q2 q0 qB ql
                        try replace hX := hid hX
                        replace hxi := hid hxi
                        go_wp2_with (fail)
                        refine ⟨?_, ?_⟩
                        · first | exact ⟨3, by omega, rfl, ql', q3, q0', qB'⟩ | ((repeat apply Exists.intro); refine ⟨?_, rfl⟩; exact ⟨3, by omega, rfl, ql', q3, q0', qB'⟩)
                        · simp [RowKit.intOf]
                      · have hXw : IntKind.i64.wrap (4 * (i : Int) + 3) = (X : Int) := by rw [IntKind.wrap_i64]; omega
                        have hb1 : ((x.toNat : Int)) % 256 = ((byteW x 3).toNat : Int) := by
                          unfold byteW; rw [UInt8.toNat_ofNat']; have := x.isLt; omega
                        have q3 := setCell_blk (i := X) (x := .int .u8 ((byteW x 3).toNat : Int)) q2
                        rw [rowU_set] at q3
                        have hset : (outB s9 X).set X (byteW x 3) = outB s9 (4 * i + 4) := by
                          have h9 := outB_set s9 X (by omega)
                          rw [show X / 4 = i by omega, show X % 4 = 3 by omega, hxi] at h9
                          rw [h9, show X + 1 = 4 * i + 4 by omega]
                        rw [hset] at q3
                        have q0' := (setCell_off (b := nd) (i := X) (x := .int .u8 ((byteW x 3).toNat : Int)) (show n₀ ≠ nd by omega)).trans q0
                        have ql' := (setCell_off (b := nd) (i := X) (x := .int .u8 ((byteW x 3).toNat : Int)) (show nl ≠ nd by omega)).trans ql
                        have qB' := qB.setCell (p := ⟨nd, X, none⟩) (show n₀ ≤ nd by omega) (.int .u8 ((byteW x 3).toNat : Int))
                        clear hset q2 q0 qB ql
                        try replace hX := hid hX
                        replace hxi := hid hxi
                        go_wp2_with (fail)
                        refine ⟨?_, ?_⟩
                        · first | exact ⟨4, by omega, rfl, ql', q3, q0', qB'⟩ | ((repeat apply Exists.intro); refine ⟨?_, rfl⟩; exact ⟨4, by omega, rfl, ql', q3, q0', qB'⟩)
                        · simp [RowKit.intOf]
                    · obtain rfl : k = 4 := by omega
                      go_wp2_with (fail)
                      refine ⟨?_, ?_⟩
                      · first | exact ⟨i + 1, by omega, by go_num, ql, by rw [show 4 * (i + 1) = 4 * i + 4 by omega]; exact q2, q0, qB⟩ | ((repeat apply Exists.intro); refine ⟨?_, rfl⟩; exact ⟨i + 1, by omega, by go_num, ql, by rw [show 4 * (i + 1) = 4 * i + 4 by omega]; exact q2, q0, qB⟩)
                      · simp [RowKit.intOf]; omega
                · obtain rfl : i = 8 := by omega
                  obtain ⟨OB, hOB⟩ : ∃ l, outB s9 32 = l := ⟨_, rfl⟩
                  have hO3 : OB.length = 32 := by rw [← hOB, outB_len]
                  have e2' : wr.heap[nd]? = some (.cells (rowU OB) 46 (0, 0)) := by rw [← hOB]; exact e2
                  have hg := range_blk (cs := OB.map fun b => Value.int .u8 b.toNat) e2'
                  have hi6 : (Try.prog.info? 46).map (·.size) = some (OB.map fun b => Value.int .u8 (b.toNat : Int)).length := by rw [List.length_map, hO3]; kernel_rfl
                  have hi7 : (Try.prog.info? 46).map (·.size) = some (rowU OB).size := by rw [rowU_size, hO3]; kernel_rfl
                  have ht7 : wr.there n₀ 0 (rowU OB).size := there_blk e0 (by rw [rowU_size, hO3]; rfl)
                  have u1 := (Upd.refl e0).setCells (rowU OB).toList (by rw [Array.length_toList, rowU_size, hO3]; rfl)
                  have BZ := u1.below eB (Nat.le_refl _)
                  rw [hOB] at hres
                  clear e2 e2' hOB
                  go_upto_region 23 with (fail)
                  refine wp_region_list ?_
                  refine wpList_load_mid rfl 46 _ rfl nd 0 rfl (OB.map fun b => Value.int .u8 b.toNat) _ hg Try.underlying46 rfl hi6 ?_
                  refine wpList_store_mid rfl 46 _ _ rfl n₀ 0 (rowU OB) rfl rfl ht7 hi7 (one_rowU _) ?_
                  obtain ⟨W9, hW9⟩ : ∃ W : World, W = wr.setCells n₀ 0 (rowU OB).toList := ⟨_, rfl⟩
                  rw [← hW9] at u1 BZ ⊢
                  clear hW9
                  refine wpList_nil ?_
                  go_wp2_with (fail)
                  have u2 : W9.heap[n₀]? = some (.cells (rowU OB) 46 (0, 0)) := by have h9 := u1.here; rw [Array.toArray_toList] at h9; exact h9
                  exact outRow (ty := 46) rfl u2 rfl rfl (by kernel_rfl) hi7 ⟨by rw [hres.out], hn₀ ▸ BZ⟩
end Go.Proofs.Ytomgjapjeckokaa
