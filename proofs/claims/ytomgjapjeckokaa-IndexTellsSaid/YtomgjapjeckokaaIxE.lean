/- SHA-256: the walk of turn (printed by gen_ixe.py). -/
import Derived.Test.YtomgjapjeckokaaIxD
namespace Go.Proofs.Ytomgjapjeckokaa
open Go.RowKit Go.Shelf Go.Lib

structure H8 where
  a : W32
  b : W32
  c : W32
  d : W32
  e : W32
  f : W32
  g : W32
  h : W32
def H8.l (s : H8) : List W32 := [s.a, s.b, s.c, s.d, s.e, s.f, s.g, s.h]
def stepX (s : H8) (k w : W32) : W32 := s.h + turnW s.e [6, 11, 25] + (s.e &&& s.f ^^^ ~~~s.e &&& s.g) + k + w
def stepY (s : H8) : W32 := turnW s.a [2, 13, 22] + (s.a &&& s.b ^^^ s.a &&& s.c ^^^ s.b &&& s.c)
def step8 (s : H8) (k w : W32) : H8 := ⟨stepX s k w + stepY s, s.a, s.b, s.c, s.d + stepX s k w, s.e, s.f, s.g⟩
def run8 (s : H8) (ws : List W32) : Nat → H8
  | 0 => s
  | t + 1 => step8 (run8 s ws t) (kW.getD t 0) (ws.getD t 0)
/-- the first i words, each with its own of another state -/
def plus8 (r s : H8) (i : Nat) : H8 := ⟨if 0 < i then r.a + s.a else r.a, if 1 < i then r.b + s.b else r.b, if 2 < i then r.c + s.c else r.c, if 3 < i then r.d + s.d else r.d, if 4 < i then r.e + s.e else r.e, if 5 < i then r.f + s.f else r.f, if 6 < i then r.g + s.g else r.g, if 7 < i then r.h + s.h else r.h⟩
def turn8 (s : H8) (bl : List UInt8) : H8 := plus8 (run8 s (schedW bl 64) 64) s 8
theorem plus8_step (r s : H8) (i : Nat) (h : i < 8) : ∃ x y : W32, (plus8 r s i).l[i]? = some x ∧ s.l[i]? = some y ∧ (plus8 r s (i + 1)).l = (plus8 r s i).l.set i (x + y) := by
  match i, h with
  | 0, _ | 1, _ | 2, _ | 3, _ | 4, _ | 5, _ | 6, _ | 7, _ => exact ⟨_, _, rfl, rfl, rfl⟩
  | i + 8, h => omega
theorem notW (a : W32) : bits .xor .u32 (if IntKind.u32.signed = true then -1 else IntKind.u32.max) (a.toNat : Int) = ((~~~a).toNat : Int) := by
  rw [show (if IntKind.u32.signed = true then -1 else IntKind.u32.max : Int) = 4294967295 from rfl, show (4294967295 : Int) = ((BitVec.allOnes 32).toNat : Int) from rfl, bits_xorW, BitVec.allOnes_xor]
theorem sl3 (W : World) (t : TypeId) (a b c : Nat) : Sl (W.alloc (.cells #[.int .i64 a, .int .i64 b, .int .i64 c] t)).drew 1 encN (.slice (some ⟨W.heap.size, 0, none⟩) 3 3) [a, b, c] := by
  refine Sl.mk (l := [a, b, c]) (cap := 3) (by simp) (by decide) fun i x h => ?_
  have hb : (W.alloc (.cells #[.int .i64 (a : Int), .int .i64 (b : Int), .int .i64 (c : Int)] t)).drew.heap[W.heap.size]? = _ := World.alloc_heap_new W _
  match i, h with
  | 0, h => obtain rfl := Option.some.inj h; exact fun j v hj => by match j, hj with | 0, hj => obtain rfl := Option.some.inj hj; exact cell_blk hb rfl
  | 1, h => obtain rfl := Option.some.inj h; exact fun j v hj => by match j, hj with | 0, hj => obtain rfl := Option.some.inj hj; exact cell_blk hb rfl
  | 2, h => obtain rfl := Option.some.inj h; exact fun j v hj => by match j, hj with | 0, hj => obtain rfl := Option.some.inj hj; exact cell_blk hb rfl
theorem sl3x (W : World) (t : TypeId) : Sl (W.alloc (.cells #[.int .i64 6, .int .i64 11, .int .i64 25] t)).drew 1 encN (.slice (some ⟨W.heap.size, 0, none⟩) 3 3) [6, 11, 25] := sl3 W t 6 11 25
theorem sl3y (W : World) (t : TypeId) : Sl (W.alloc (.cells #[.int .i64 2, .int .i64 13, .int .i64 22] t)).drew 1 encN (.slice (some ⟨W.heap.size, 0, none⟩) 3 3) [2, 13, 22] := sl3 W t 2 13 22
theorem run_index64 (l : List W32) (t : Nat) (x : W32) (W : World) (ht : t < 64) (hx : l[t]? = some x) :
    Sem.run Try.prog (Instr.index 118 (.agg (rowW l)) (.int .i64 t)) W = .ok (.int .u32 (x.toNat : Int)) W := by
  have h1 : (t : Int) < 64 := by omega
  have h2 := rowW_at hx
  unfold Instr.index
  go_simp
theorem rowW_l (s : H8) : rowW s.l = #[.int .u32 (s.a.toNat : Int), .int .u32 (s.b.toNat : Int), .int .u32 (s.c.toNat : Int), .int .u32 (s.d.toNat : Int), .int .u32 (s.e.toNat : Int), .int .u32 (s.f.toNat : Int), .int .u32 (s.g.toNat : Int), .int .u32 (s.h.toNat : Int)] := rfl

set_option maxRecDepth 100000 in
set_option maxHeartbeats 1000000 in
theorem turn_any (s : H8) (bl : List UInt8) (v : Value) (w : World) (hl : bl.length = 64) (hs : Sl w 1 encU v bl) :
    Calls Try.prog 76 #[.agg (rowW s.l), v] w fun e w' => e = .returned (.agg (rowW (turn8 s bl).l)) ∧ Below w.heap.size w w' := by
  obtain ⟨vb, vo, cap, rfl, hm1, hm2, hc⟩ := hs.open (by intro h; rw [h] at hl; simp at hl)
  obtain ⟨n₀, hn₀⟩ : ∃ n, w.heap.size = n := ⟨_, rfl⟩
  have hvb : vb < n₀ := by
    obtain ⟨c, hc0⟩ : ∃ c, bl[0]? = some c := ⟨_, List.getElem?_eq_getElem (by omega)⟩
    have h0 := rangeAt_one (hc 0 c hc0)
    rw [← hn₀]; exact World.block_lt_of_cell? w _ h0
  rw [hl] at hm1 hs ⊢
  clear hc hm1 hm2
  rw [rowW_l]
  go_enter Try.func76, Try.ntmps76
  go_upto_region 1 with (fail)
  obtain ⟨W1, hW1⟩ : ∃ W : World, W = (w.alloc (.cells #[.int .u32 (s.a.toNat : Int), .int .u32 (s.b.toNat : Int), .int .u32 (s.c.toNat : Int), .int .u32 (s.d.toNat : Int), .int .u32 (s.e.toNat : Int), .int .u32 (s.f.toNat : Int), .int .u32 (s.g.toNat : Int), .int .u32 (s.h.toNat : Int)] 110)).alloc (.cells #[.int .u32 0, .int .u32 0, .int .u32 0, .int .u32 0, .int .u32 0, .int .u32 0, .int .u32 0, .int .u32 0] 110) := ⟨_, rfl⟩
  have hz : (w.alloc (.cells #[.int .u32 (s.a.toNat : Int), .int .u32 (s.b.toNat : Int), .int .u32 (s.c.toNat : Int), .int .u32 (s.d.toNat : Int), .int .u32 (s.e.toNat : Int), .int .u32 (s.f.toNat : Int), .int .u32 (s.g.toNat : Int), .int .u32 (s.h.toNat : Int)] 110)).heap.size = n₀ + 1 := by rw [World.size_alloc, hn₀]
  have hz1 : W1.heap.size = n₀ + 2 := by rw [hW1, World.size_alloc, hz]
  have a0 : W1.heap[n₀]? = some (.cells (rowW s.l) 110 (0, 0)) := by
    rw [hW1]
    refine (Kept.alloc 0 _ _).same _ _ ?_ (.inl rfl)
    rw [← hn₀]; exact World.alloc_heap_new w _
  have a1 : W1.heap[n₀ + 1]? = some (.cells #[.int .u32 0, .int .u32 0, .int .u32 0, .int .u32 0, .int .u32 0, .int .u32 0, .int .u32 0, .int .u32 0] 110 (0, 0)) := by
    rw [hW1, ← hz]; exact World.alloc_heap_new _ _
  have B1 : Below n₀ w W1 := by rw [hW1, ← hn₀]; exact ((Below.refl _ w).alloc (Nat.le_refl _) _).alloc (by simp) _
  have s1 : Sl W1 1 encU (.slice (some ⟨vb, vo, none⟩) 64 cap) bl := by rw [hW1]; exact (Kept.alloc 0 _ _).sl ((Kept.alloc 0 _ _).sl hs)
  rw [← hW1]
  clear hW1 hz hs
  try simp only [hn₀]
  have cK := hid (constants_any W1)
  go_wp2_with (fail)
  refine cK.out.mono ?_
  rintro e w2 ⟨rfl, b2⟩
  have a02 := (Kept.of_below b2 0).same _ _ a0 (.inl rfl)
  have a12 := (Kept.of_below b2 0).same _ _ a1 (.inl rfl)
  have s2 := (Kept.of_below b2 0).sl s1
  have B2 := B1.trans (b2.mono (by omega))
  obtain ⟨nk, hnk⟩ : ∃ n, w2.heap.size = n := ⟨_, rfl⟩
  have hnk2 : n₀ + 2 ≤ nk := by have := b2.size; omega
  have k2 := World.alloc_heap_new w2 (.cells #[.int .u32 0, .int .u32 0, .int .u32 0, .int .u32 0, .int .u32 0, .int .u32 0, .int .u32 0, .int .u32 0, .int .u32 0, .int .u32 0, .int .u32 0, .int .u32 0, .int .u32 0, .int .u32 0, .int .u32 0, .int .u32 0, .int .u32 0, .int .u32 0, .int .u32 0, .int .u32 0, .int .u32 0, .int .u32 0, .int .u32 0, .int .u32 0, .int .u32 0, .int .u32 0, .int .u32 0, .int .u32 0, .int .u32 0, .int .u32 0, .int .u32 0, .int .u32 0, .int .u32 0, .int .u32 0, .int .u32 0, .int .u32 0, .int .u32 0, .int .u32 0, .int .u32 0, .int .u32 0, .int .u32 0, .int .u32 0, .int .u32 0, .int .u32 0, .int .u32 0, .int .u32 0, .int .u32 0, .int .u32 0, .int .u32 0, .int .u32 0, .int .u32 0, .int .u32 0, .int .u32 0, .int .u32 0, .int .u32 0, .int .u32 0, .int .u32 0, .int .u32 0, .int .u32 0, .int .u32 0, .int .u32 0, .int .u32 0, .int .u32 0, .int .u32 0] 118)
  rw [hnk] at k2
  have a03 := (Kept.alloc 0 w2 (.cells #[.int .u32 0, .int .u32 0, .int .u32 0, .int .u32 0, .int .u32 0, .int .u32 0, .int .u32 0, .int .u32 0, .int .u32 0, .int .u32 0, .int .u32 0, .int .u32 0, .int .u32 0, .int .u32 0, .int .u32 0, .int .u32 0, .int .u32 0, .int .u32 0, .int .u32 0, .int .u32 0, .int .u32 0, .int .u32 0, .int .u32 0, .int .u32 0, .int .u32 0, .int .u32 0, .int .u32 0, .int .u32 0, .int .u32 0, .int .u32 0, .int .u32 0, .int .u32 0, .int .u32 0, .int .u32 0, .int .u32 0, .int .u32 0, .int .u32 0, .int .u32 0, .int .u32 0, .int .u32 0, .int .u32 0, .int .u32 0, .int .u32 0, .int .u32 0, .int .u32 0, .int .u32 0, .int .u32 0, .int .u32 0, .int .u32 0, .int .u32 0, .int .u32 0, .int .u32 0, .int .u32 0, .int .u32 0, .int .u32 0, .int .u32 0, .int .u32 0, .int .u32 0, .int .u32 0, .int .u32 0, .int .u32 0, .int .u32 0, .int .u32 0, .int .u32 0] 118)).same _ _ a02 (.inl rfl)
  have a13 := (Kept.alloc 0 w2 (.cells #[.int .u32 0, .int .u32 0, .int .u32 0, .int .u32 0, .int .u32 0, .int .u32 0, .int .u32 0, .int .u32 0, .int .u32 0, .int .u32 0, .int .u32 0, .int .u32 0, .int .u32 0, .int .u32 0, .int .u32 0, .int .u32 0, .int .u32 0, .int .u32 0, .int .u32 0, .int .u32 0, .int .u32 0, .int .u32 0, .int .u32 0, .int .u32 0, .int .u32 0, .int .u32 0, .int .u32 0, .int .u32 0, .int .u32 0, .int .u32 0, .int .u32 0, .int .u32 0, .int .u32 0, .int .u32 0, .int .u32 0, .int .u32 0, .int .u32 0, .int .u32 0, .int .u32 0, .int .u32 0, .int .u32 0, .int .u32 0, .int .u32 0, .int .u32 0, .int .u32 0, .int .u32 0, .int .u32 0, .int .u32 0, .int .u32 0, .int .u32 0, .int .u32 0, .int .u32 0, .int .u32 0, .int .u32 0, .int .u32 0, .int .u32 0, .int .u32 0, .int .u32 0, .int .u32 0, .int .u32 0, .int .u32 0, .int .u32 0, .int .u32 0, .int .u32 0] 118)).same _ _ a12 (.inl rfl)
  have s3 := (Kept.alloc 0 w2 (.cells #[.int .u32 0, .int .u32 0, .int .u32 0, .int .u32 0, .int .u32 0, .int .u32 0, .int .u32 0, .int .u32 0, .int .u32 0, .int .u32 0, .int .u32 0, .int .u32 0, .int .u32 0, .int .u32 0, .int .u32 0, .int .u32 0, .int .u32 0, .int .u32 0, .int .u32 0, .int .u32 0, .int .u32 0, .int .u32 0, .int .u32 0, .int .u32 0, .int .u32 0, .int .u32 0, .int .u32 0, .int .u32 0, .int .u32 0, .int .u32 0, .int .u32 0, .int .u32 0, .int .u32 0, .int .u32 0, .int .u32 0, .int .u32 0, .int .u32 0, .int .u32 0, .int .u32 0, .int .u32 0, .int .u32 0, .int .u32 0, .int .u32 0, .int .u32 0, .int .u32 0, .int .u32 0, .int .u32 0, .int .u32 0, .int .u32 0, .int .u32 0, .int .u32 0, .int .u32 0, .int .u32 0, .int .u32 0, .int .u32 0, .int .u32 0, .int .u32 0, .int .u32 0, .int .u32 0, .int .u32 0, .int .u32 0, .int .u32 0, .int .u32 0, .int .u32 0] 118)).sl s2
  have B3 := B2.alloc (by have := B2.size; omega) (.cells #[.int .u32 0, .int .u32 0, .int .u32 0, .int .u32 0, .int .u32 0, .int .u32 0, .int .u32 0, .int .u32 0, .int .u32 0, .int .u32 0, .int .u32 0, .int .u32 0, .int .u32 0, .int .u32 0, .int .u32 0, .int .u32 0, .int .u32 0, .int .u32 0, .int .u32 0, .int .u32 0, .int .u32 0, .int .u32 0, .int .u32 0, .int .u32 0, .int .u32 0, .int .u32 0, .int .u32 0, .int .u32 0, .int .u32 0, .int .u32 0, .int .u32 0, .int .u32 0, .int .u32 0, .int .u32 0, .int .u32 0, .int .u32 0, .int .u32 0, .int .u32 0, .int .u32 0, .int .u32 0, .int .u32 0, .int .u32 0, .int .u32 0, .int .u32 0, .int .u32 0, .int .u32 0, .int .u32 0, .int .u32 0, .int .u32 0, .int .u32 0, .int .u32 0, .int .u32 0, .int .u32 0, .int .u32 0, .int .u32 0, .int .u32 0, .int .u32 0, .int .u32 0, .int .u32 0, .int .u32 0, .int .u32 0, .int .u32 0, .int .u32 0, .int .u32 0] 118)
  have k2' : (w2.alloc (.cells #[.int .u32 0, .int .u32 0, .int .u32 0, .int .u32 0, .int .u32 0, .int .u32 0, .int .u32 0, .int .u32 0, .int .u32 0, .int .u32 0, .int .u32 0, .int .u32 0, .int .u32 0, .int .u32 0, .int .u32 0, .int .u32 0, .int .u32 0, .int .u32 0, .int .u32 0, .int .u32 0, .int .u32 0, .int .u32 0, .int .u32 0, .int .u32 0, .int .u32 0, .int .u32 0, .int .u32 0, .int .u32 0, .int .u32 0, .int .u32 0, .int .u32 0, .int .u32 0, .int .u32 0, .int .u32 0, .int .u32 0, .int .u32 0, .int .u32 0, .int .u32 0, .int .u32 0, .int .u32 0, .int .u32 0, .int .u32 0, .int .u32 0, .int .u32 0, .int .u32 0, .int .u32 0, .int .u32 0, .int .u32 0, .int .u32 0, .int .u32 0, .int .u32 0, .int .u32 0, .int .u32 0, .int .u32 0, .int .u32 0, .int .u32 0, .int .u32 0, .int .u32 0, .int .u32 0, .int .u32 0, .int .u32 0, .int .u32 0, .int .u32 0, .int .u32 0] 118)).heap[nk]? = some (.cells (rowW (List.replicate 64 0)) 118 (0, 0)) := by
    rw [zero64_is, ← hnk]; exact World.alloc_heap_new w2 _
  have hk6 : (Try.prog.info? 118).map (·.size) = some (rowW kW).size := by kernel_rfl
  have ht6 : (w2.alloc (.cells #[.int .u32 0, .int .u32 0, .int .u32 0, .int .u32 0, .int .u32 0, .int .u32 0, .int .u32 0, .int .u32 0, .int .u32 0, .int .u32 0, .int .u32 0, .int .u32 0, .int .u32 0, .int .u32 0, .int .u32 0, .int .u32 0, .int .u32 0, .int .u32 0, .int .u32 0, .int .u32 0, .int .u32 0, .int .u32 0, .int .u32 0, .int .u32 0, .int .u32 0, .int .u32 0, .int .u32 0, .int .u32 0, .int .u32 0, .int .u32 0, .int .u32 0, .int .u32 0, .int .u32 0, .int .u32 0, .int .u32 0, .int .u32 0, .int .u32 0, .int .u32 0, .int .u32 0, .int .u32 0, .int .u32 0, .int .u32 0, .int .u32 0, .int .u32 0, .int .u32 0, .int .u32 0, .int .u32 0, .int .u32 0, .int .u32 0, .int .u32 0, .int .u32 0, .int .u32 0, .int .u32 0, .int .u32 0, .int .u32 0, .int .u32 0, .int .u32 0, .int .u32 0, .int .u32 0, .int .u32 0, .int .u32 0, .int .u32 0, .int .u32 0, .int .u32 0] 118)).there nk 0 (rowW kW).size := there_blk k2' (by rw [rowW_size, rowW_size]; rfl)
  have u3 := (Upd.refl k2').setCells (rowW kW).toList (by rw [Array.length_toList, rowW_size, rowW_size]; rfl)
  clear cK b2 a0 a1 s1 B1 a02 a12 s2 B2 k2
  go_upto_region 2 with (refine wpList_store_mid rfl 118 _ _ rfl nk 0 (rowW kW) rfl rfl ht6 hk6 (one_rowW _) ?_)
  try simp only [Act.put]
  obtain ⟨W3, hW3⟩ : ∃ W : World, W = (w2.alloc (.cells #[.int .u32 0, .int .u32 0, .int .u32 0, .int .u32 0, .int .u32 0, .int .u32 0, .int .u32 0, .int .u32 0, .int .u32 0, .int .u32 0, .int .u32 0, .int .u32 0, .int .u32 0, .int .u32 0, .int .u32 0, .int .u32 0, .int .u32 0, .int .u32 0, .int .u32 0, .int .u32 0, .int .u32 0, .int .u32 0, .int .u32 0, .int .u32 0, .int .u32 0, .int .u32 0, .int .u32 0, .int .u32 0, .int .u32 0, .int .u32 0, .int .u32 0, .int .u32 0, .int .u32 0, .int .u32 0, .int .u32 0, .int .u32 0, .int .u32 0, .int .u32 0, .int .u32 0, .int .u32 0, .int .u32 0, .int .u32 0, .int .u32 0, .int .u32 0, .int .u32 0, .int .u32 0, .int .u32 0, .int .u32 0, .int .u32 0, .int .u32 0, .int .u32 0, .int .u32 0, .int .u32 0, .int .u32 0, .int .u32 0, .int .u32 0, .int .u32 0, .int .u32 0, .int .u32 0, .int .u32 0, .int .u32 0, .int .u32 0, .int .u32 0, .int .u32 0] 118)).setCells nk 0 (rowW kW).toList := ⟨_, rfl⟩
  rw [← hW3] at u3 ⊢
  have k3 : W3.heap[nk]? = some (.cells (rowW kW) 118 (0, 0)) := by have := u3.here; rwa [Array.toArray_toList] at this
  have a04 := (u3.off n₀ (by omega)).trans a03
  have a14 := (u3.off (n₀ + 1) (by omega)).trans a13
  have s4 := u3.sl (fun a h => by cases h; show vb ≠ nk; omega) s3
  have B4 := u3.below B3 (by omega)
  have hz3 : W3.heap.size = nk + 1 := by rw [u3.size, World.size_alloc, hnk]
  clear a03 a13 s3 B3 k2' ht6 u3 hW3
  have c0 : W3.cell? ⟨n₀, 0, none⟩ = some (.int .u32 (s.a.toNat : Int)) := cell_blk (i := 0) a04 rfl
  have c1 : W3.cell? ⟨n₀, 1, none⟩ = some (.int .u32 (s.b.toNat : Int)) := cell_blk (i := 1) a04 rfl
  have c2 : W3.cell? ⟨n₀, 2, none⟩ = some (.int .u32 (s.c.toNat : Int)) := cell_blk (i := 2) a04 rfl
  have c3 : W3.cell? ⟨n₀, 3, none⟩ = some (.int .u32 (s.d.toNat : Int)) := cell_blk (i := 3) a04 rfl
  have c4 : W3.cell? ⟨n₀, 4, none⟩ = some (.int .u32 (s.e.toNat : Int)) := cell_blk (i := 4) a04 rfl
  have c5 : W3.cell? ⟨n₀, 5, none⟩ = some (.int .u32 (s.f.toNat : Int)) := cell_blk (i := 5) a04 rfl
  have c6 : W3.cell? ⟨n₀, 6, none⟩ = some (.int .u32 (s.g.toNat : Int)) := cell_blk (i := 6) a04 rfl
  have c7 : W3.cell? ⟨n₀, 7, none⟩ = some (.int .u32 (s.h.toNat : Int)) := cell_blk (i := 7) a04 rfl
  obtain ⟨ns, hns⟩ : ∃ n, nk + 1 = n := ⟨_, rfl⟩
  have r5 := World.alloc_heap_new W3 (.cells #[.int .u32 (s.a.toNat : Int), .int .u32 (s.b.toNat : Int), .int .u32 (s.c.toNat : Int), .int .u32 (s.d.toNat : Int), .int .u32 (s.e.toNat : Int), .int .u32 (s.f.toNat : Int), .int .u32 (s.g.toNat : Int), .int .u32 (s.h.toNat : Int)] 110)
  rw [hz3, hns] at r5
  have a05 := (Kept.alloc 0 W3 (.cells #[.int .u32 (s.a.toNat : Int), .int .u32 (s.b.toNat : Int), .int .u32 (s.c.toNat : Int), .int .u32 (s.d.toNat : Int), .int .u32 (s.e.toNat : Int), .int .u32 (s.f.toNat : Int), .int .u32 (s.g.toNat : Int), .int .u32 (s.h.toNat : Int)] 110)).same _ _ a04 (.inl rfl)
  have a15 := (Kept.alloc 0 W3 (.cells #[.int .u32 (s.a.toNat : Int), .int .u32 (s.b.toNat : Int), .int .u32 (s.c.toNat : Int), .int .u32 (s.d.toNat : Int), .int .u32 (s.e.toNat : Int), .int .u32 (s.f.toNat : Int), .int .u32 (s.g.toNat : Int), .int .u32 (s.h.toNat : Int)] 110)).same _ _ a14 (.inl rfl)
  have k5 := (Kept.alloc 0 W3 (.cells #[.int .u32 (s.a.toNat : Int), .int .u32 (s.b.toNat : Int), .int .u32 (s.c.toNat : Int), .int .u32 (s.d.toNat : Int), .int .u32 (s.e.toNat : Int), .int .u32 (s.f.toNat : Int), .int .u32 (s.g.toNat : Int), .int .u32 (s.h.toNat : Int)] 110)).same _ _ k3 (.inl rfl)
  have s5 := (Kept.alloc 0 W3 (.cells #[.int .u32 (s.a.toNat : Int), .int .u32 (s.b.toNat : Int), .int .u32 (s.c.toNat : Int), .int .u32 (s.d.toNat : Int), .int .u32 (s.e.toNat : Int), .int .u32 (s.f.toNat : Int), .int .u32 (s.g.toNat : Int), .int .u32 (s.h.toNat : Int)] 110)).sl s4
  have B5 := B4.alloc (by have := B4.size; omega) (.cells #[.int .u32 (s.a.toNat : Int), .int .u32 (s.b.toNat : Int), .int .u32 (s.c.toNat : Int), .int .u32 (s.d.toNat : Int), .int .u32 (s.e.toNat : Int), .int .u32 (s.f.toNat : Int), .int .u32 (s.g.toNat : Int), .int .u32 (s.h.toNat : Int)] 110)
  have cS := hid (schedule_any bl _ (W3.alloc (.cells #[.int .u32 (s.a.toNat : Int), .int .u32 (s.b.toNat : Int), .int .u32 (s.c.toNat : Int), .int .u32 (s.d.toNat : Int), .int .u32 (s.e.toNat : Int), .int .u32 (s.f.toNat : Int), .int .u32 (s.g.toNat : Int), .int .u32 (s.h.toNat : Int)] 110)) hl s5)
  obtain ⟨WS, hWS⟩ : ∃ l, schedW bl 64 = l := ⟨_, rfl⟩
  have hW6 : WS.length = 64 := by rw [← hWS, schedW_len]
  rw [hWS] at cS
  replace hWS := hid hWS
  clear a04 a14 k3 s4 B4
  rw [hns] at hz3
  go_wp2_with (fail)
  refine cS.out.mono ?_
  rintro e w6 ⟨rfl, b6⟩
  have kp := Kept.of_below b6 0
  have a0 := kp.same _ _ a05 (.inl rfl)
  have a1 := kp.same _ _ a15 (.inl rfl)
  have k6 := kp.same _ _ k5 (.inl rfl)
  have r6 := kp.same _ _ r5 (.inl rfl)
  have B6 := B5.trans (b6.mono (by have := B5.size; omega))
  clear cS b6 kp a05 a15 k5 r5 s5 B5 c0 c1 c2 c3 c4 c5 c6 c7
  go_wp2_with (fail)
  have hns2 : nk < ns := by omega
  go_loopw [16] (fun iv wr => ∃ t : Nat, t ≤ 64 ∧ iv = .int .i64 t ∧ wr.heap[n₀]? = some (.cells (rowW s.l) 110 (0, 0)) ∧ wr.heap[n₀ + 1]? = some (.cells #[.int .u32 0, .int .u32 0, .int .u32 0, .int .u32 0, .int .u32 0, .int .u32 0, .int .u32 0, .int .u32 0] 110 (0, 0)) ∧ wr.heap[nk]? = some (.cells (rowW kW) 118 (0, 0)) ∧ wr.heap[ns]? = some (.cells (rowW (run8 s WS t).l) 110 (0, 0)) ∧ Below n₀ w wr) (fun iv _ => 64 - (RowKit.intOf iv).toNat)
  case atStart => exact ⟨0, Nat.zero_le _, rfl, a0, a1, k6, r6, B6⟩
  case round =>
    obtain ⟨t, ht, rfl, g0, g1, gk, gr, hB⟩ := hrel
    clear a0 a1 k6 r6 B6
    by_cases ht6 : t < 64
    · have htI : (t : Int) < 64 := by omega
      obtain ⟨kk, hkk⟩ : ∃ x, kW[t]? = some x := ⟨_, List.getElem?_eq_getElem (show t < 64 from ht6)⟩
      obtain ⟨ww, hww⟩ : ∃ x, WS[t]? = some x := ⟨_, List.getElem?_eq_getElem (by omega)⟩
      obtain ⟨r, hr⟩ : ∃ r, run8 s WS t = r := ⟨_, rfl⟩
      have hrs : run8 s WS (t + 1) = step8 r kk ww := by
        rw [run8, hr, List.getD_eq_getElem?_getD, List.getD_eq_getElem?_getD, hkk, hww]; rfl
      rw [hr] at gr
      have hix := fun W => run_index64 WS t ww W ht6 hww
      obtain ⟨T1, hT1⟩ : ∃ x : W32, turnW r.e [6, 11, 25] = x := ⟨_, rfl⟩
      obtain ⟨X1, hX1⟩ : ∃ x : W32, r.h + T1 = x := ⟨_, rfl⟩
      obtain ⟨P1, hP1⟩ : ∃ x : W32, r.e &&& r.f = x := ⟨_, rfl⟩
      obtain ⟨N1, hN1⟩ : ∃ x : W32, ~~~r.e = x := ⟨_, rfl⟩
      obtain ⟨P2, hP2⟩ : ∃ x : W32, N1 &&& r.g = x := ⟨_, rfl⟩
      obtain ⟨P3, hP3⟩ : ∃ x : W32, P1 ^^^ P2 = x := ⟨_, rfl⟩
      obtain ⟨X2, hX2⟩ : ∃ x : W32, X1 + P3 = x := ⟨_, rfl⟩
      obtain ⟨X3, hX3⟩ : ∃ x : W32, X2 + kk = x := ⟨_, rfl⟩
      obtain ⟨X4, hX4⟩ : ∃ x : W32, X3 + ww = x := ⟨_, rfl⟩
      obtain ⟨T2, hT2⟩ : ∃ x : W32, turnW r.a [2, 13, 22] = x := ⟨_, rfl⟩
      obtain ⟨Q1, hQ1⟩ : ∃ x : W32, r.a &&& r.b = x := ⟨_, rfl⟩
      obtain ⟨Q2, hQ2⟩ : ∃ x : W32, r.a &&& r.c = x := ⟨_, rfl⟩
      obtain ⟨Q3, hQ3⟩ : ∃ x : W32, Q1 ^^^ Q2 = x := ⟨_, rfl⟩
      obtain ⟨Q4, hQ4⟩ : ∃ x : W32, r.b &&& r.c = x := ⟨_, rfl⟩
      obtain ⟨Q5, hQ5⟩ : ∃ x : W32, Q3 ^^^ Q4 = x := ⟨_, rfl⟩
      obtain ⟨Y1, hY1⟩ : ∃ x : W32, T2 + Q5 = x := ⟨_, rfl⟩
      obtain ⟨Z0, hZ0⟩ : ∃ x : W32, X4 + Y1 = x := ⟨_, rfl⟩
      obtain ⟨Z4, hZ4⟩ : ∃ x : W32, r.d + X4 = x := ⟨_, rfl⟩
      have l1 : IntKind.u32.wrap ((r.h.toNat : Int) + (T1.toNat : Int)) = (X1.toNat : Int) := by rw [← hX1]; exact addWr _ _
      have l2 : bits .and .u32 (r.e.toNat : Int) (r.f.toNat : Int) = (P1.toNat : Int) := by rw [← hP1]; exact bits_andW _ _
      have l3 : bits .xor .u32 (if IntKind.u32.signed = true then -1 else IntKind.u32.max) (r.e.toNat : Int) = (N1.toNat : Int) := by rw [← hN1]; exact notW _
      have l4 : bits .and .u32 (N1.toNat : Int) (r.g.toNat : Int) = (P2.toNat : Int) := by rw [← hP2]; exact bits_andW _ _
      have l5 : bits .xor .u32 (P1.toNat : Int) (P2.toNat : Int) = (P3.toNat : Int) := by rw [← hP3]; exact bits_xorW _ _
      have l6 : IntKind.u32.wrap ((X1.toNat : Int) + (P3.toNat : Int)) = (X2.toNat : Int) := by rw [← hX2]; exact addWr _ _
      have l7 : IntKind.u32.wrap ((X2.toNat : Int) + (kk.toNat : Int)) = (X3.toNat : Int) := by rw [← hX3]; exact addWr _ _
      have l8 : IntKind.u32.wrap ((X3.toNat : Int) + (ww.toNat : Int)) = (X4.toNat : Int) := by rw [← hX4]; exact addWr _ _
      have j1 : bits .and .u32 (r.a.toNat : Int) (r.b.toNat : Int) = (Q1.toNat : Int) := by rw [← hQ1]; exact bits_andW _ _
      have j2 : bits .and .u32 (r.a.toNat : Int) (r.c.toNat : Int) = (Q2.toNat : Int) := by rw [← hQ2]; exact bits_andW _ _
      have j3 : bits .xor .u32 (Q1.toNat : Int) (Q2.toNat : Int) = (Q3.toNat : Int) := by rw [← hQ3]; exact bits_xorW _ _
      have j4 : bits .and .u32 (r.b.toNat : Int) (r.c.toNat : Int) = (Q4.toNat : Int) := by rw [← hQ4]; exact bits_andW _ _
      have j5 : bits .xor .u32 (Q3.toNat : Int) (Q4.toNat : Int) = (Q5.toNat : Int) := by rw [← hQ5]; exact bits_xorW _ _
      have j6 : IntKind.u32.wrap ((T2.toNat : Int) + (Q5.toNat : Int)) = (Y1.toNat : Int) := by rw [← hY1]; exact addWr _ _
      have z0 : IntKind.u32.wrap ((X4.toNat : Int) + (Y1.toNat : Int)) = (Z0.toNat : Int) := by rw [← hZ0]; exact addWr _ _
      have z4 : IntKind.u32.wrap ((r.d.toNat : Int) + (X4.toNat : Int)) = (Z4.toNat : Int) := by rw [← hZ4]; exact addWr _ _
      have hst : step8 r kk ww = ⟨Z0, r.a, r.b, r.c, Z4, r.e, r.f, r.g⟩ := by
        unfold step8 stepX stepY
        rw [hT1, hX1, hP1, hN1, hP2, hP3, hX2, hX3, hX4, hT2, hQ1, hQ2, hQ3, hQ4, hQ5, hY1, hZ0, hZ4]
      rw [hst] at hrs
      obtain ⟨SS, hSS⟩ : ∃ SS : World → Prop, ∀ W, SS W ↔ (W.heap[n₀]? = some (.cells (rowW s.l) 110 (0, 0)) ∧ W.heap[n₀ + 1]? = some (.cells #[.int .u32 0, .int .u32 0, .int .u32 0, .int .u32 0, .int .u32 0, .int .u32 0, .int .u32 0, .int .u32 0] 110 (0, 0)) ∧ W.heap[nk]? = some (.cells (rowW kW) 118 (0, 0)) ∧ W.heap[ns]? = some (.cells (rowW r.l) 110 (0, 0)) ∧ Below n₀ w W) := ⟨_, fun _ => Iff.rfl⟩
      have atC : ∀ W, SS W → W.cell? ⟨ns, 0, none⟩ = some (.int .u32 (r.a.toNat : Int)) ∧ W.cell? ⟨ns, 1, none⟩ = some (.int .u32 (r.b.toNat : Int)) ∧ W.cell? ⟨ns, 2, none⟩ = some (.int .u32 (r.c.toNat : Int)) ∧ W.cell? ⟨ns, 3, none⟩ = some (.int .u32 (r.d.toNat : Int)) ∧ W.cell? ⟨ns, 4, none⟩ = some (.int .u32 (r.e.toNat : Int)) ∧ W.cell? ⟨ns, 5, none⟩ = some (.int .u32 (r.f.toNat : Int)) ∧ W.cell? ⟨ns, 6, none⟩ = some (.int .u32 (r.g.toNat : Int)) ∧ W.cell? ⟨ns, 7, none⟩ = some (.int .u32 (r.h.toNat : Int)) ∧ W.cell? ⟨nk, t, none⟩ = some (.int .u32 (kk.toNat : Int)) ∧ SS W := by
        intro W h
        obtain ⟨h1, h2, h3, h4, h5⟩ := (hSS W).1 h
        exact ⟨cell_blk (i := 0) h4 rfl, cell_blk (i := 1) h4 rfl, cell_blk (i := 2) h4 rfl, cell_blk (i := 3) h4 rfl, cell_blk (i := 4) h4 rfl, cell_blk (i := 5) h4 rfl, cell_blk (i := 6) h4 rfl, cell_blk (i := 7) h4 rfl, cell_blk h3 (rowW_at hkk), h⟩
      have kS : Hid (∀ W W' : World, (W.cell? ⟨ns, 0, none⟩ = some (.int .u32 (r.a.toNat : Int)) ∧ W.cell? ⟨ns, 1, none⟩ = some (.int .u32 (r.b.toNat : Int)) ∧ W.cell? ⟨ns, 2, none⟩ = some (.int .u32 (r.c.toNat : Int)) ∧ W.cell? ⟨ns, 3, none⟩ = some (.int .u32 (r.d.toNat : Int)) ∧ W.cell? ⟨ns, 4, none⟩ = some (.int .u32 (r.e.toNat : Int)) ∧ W.cell? ⟨ns, 5, none⟩ = some (.int .u32 (r.f.toNat : Int)) ∧ W.cell? ⟨ns, 6, none⟩ = some (.int .u32 (r.g.toNat : Int)) ∧ W.cell? ⟨ns, 7, none⟩ = some (.int .u32 (r.h.toNat : Int)) ∧ W.cell? ⟨nk, t, none⟩ = some (.int .u32 (kk.toNat : Int)) ∧ SS W) → Below W.heap.size W W' → W'.cell? ⟨ns, 0, none⟩ = some (.int .u32 (r.a.toNat : Int)) ∧ W'.cell? ⟨ns, 1, none⟩ = some (.int .u32 (r.b.toNat : Int)) ∧ W'.cell? ⟨ns, 2, none⟩ = some (.int .u32 (r.c.toNat : Int)) ∧ W'.cell? ⟨ns, 3, none⟩ = some (.int .u32 (r.d.toNat : Int)) ∧ W'.cell? ⟨ns, 4, none⟩ = some (.int .u32 (r.e.toNat : Int)) ∧ W'.cell? ⟨ns, 5, none⟩ = some (.int .u32 (r.f.toNat : Int)) ∧ W'.cell? ⟨ns, 6, none⟩ = some (.int .u32 (r.g.toNat : Int)) ∧ W'.cell? ⟨ns, 7, none⟩ = some (.int .u32 (r.h.toNat : Int)) ∧ W'.cell? ⟨nk, t, none⟩ = some (.int .u32 (kk.toNat : Int)) ∧ SS W') := hid (by
        rintro W W' ⟨-, -, -, -, -, -, -, -, -, h⟩ hb
        have kk9 := Kept.of_below hb 0
        obtain ⟨h1, h2, h3, h4, h5⟩ := (hSS W).1 h
        exact atC _ ((hSS W').2 ⟨kk9.same _ _ h1 (.inl rfl), kk9.same _ _ h2 (.inl rfl), kk9.same _ _ h3 (.inl rfl), kk9.same _ _ h4 (.inl rfl), h5.trans (hb.mono (by have := h5.size; omega))⟩))
      have kA : Hid (∀ (W : World) (o : Obj), (W.drew.cell? ⟨ns, 0, none⟩ = some (.int .u32 (r.a.toNat : Int)) ∧ W.drew.cell? ⟨ns, 1, none⟩ = some (.int .u32 (r.b.toNat : Int)) ∧ W.drew.cell? ⟨ns, 2, none⟩ = some (.int .u32 (r.c.toNat : Int)) ∧ W.drew.cell? ⟨ns, 3, none⟩ = some (.int .u32 (r.d.toNat : Int)) ∧ W.drew.cell? ⟨ns, 4, none⟩ = some (.int .u32 (r.e.toNat : Int)) ∧ W.drew.cell? ⟨ns, 5, none⟩ = some (.int .u32 (r.f.toNat : Int)) ∧ W.drew.cell? ⟨ns, 6, none⟩ = some (.int .u32 (r.g.toNat : Int)) ∧ W.drew.cell? ⟨ns, 7, none⟩ = some (.int .u32 (r.h.toNat : Int)) ∧ W.drew.cell? ⟨nk, t, none⟩ = some (.int .u32 (kk.toNat : Int)) ∧ SS W.drew) → (W.alloc o).drew.cell? ⟨ns, 0, none⟩ = some (.int .u32 (r.a.toNat : Int)) ∧ (W.alloc o).drew.cell? ⟨ns, 1, none⟩ = some (.int .u32 (r.b.toNat : Int)) ∧ (W.alloc o).drew.cell? ⟨ns, 2, none⟩ = some (.int .u32 (r.c.toNat : Int)) ∧ (W.alloc o).drew.cell? ⟨ns, 3, none⟩ = some (.int .u32 (r.d.toNat : Int)) ∧ (W.alloc o).drew.cell? ⟨ns, 4, none⟩ = some (.int .u32 (r.e.toNat : Int)) ∧ (W.alloc o).drew.cell? ⟨ns, 5, none⟩ = some (.int .u32 (r.f.toNat : Int)) ∧ (W.alloc o).drew.cell? ⟨ns, 6, none⟩ = some (.int .u32 (r.g.toNat : Int)) ∧ (W.alloc o).drew.cell? ⟨ns, 7, none⟩ = some (.int .u32 (r.h.toNat : Int)) ∧ (W.alloc o).drew.cell? ⟨nk, t, none⟩ = some (.int .u32 (kk.toNat : Int)) ∧ SS (W.alloc o).drew) := hid (by
        rintro W o ⟨-, -, -, -, -, -, -, -, -, h⟩
        obtain ⟨h1, h2, h3, h4, h5⟩ := (hSS W.drew).1 h
        have kk9 := Kept.alloc 0 W o
        exact atC _ ((hSS (W.alloc o).drew).2 ⟨kk9.same _ _ h1 (.inl rfl), kk9.same _ _ h2 (.inl rfl), kk9.same _ _ h3 (.inl rfl), kk9.same _ _ h4 (.inl rfl), h5.alloc (by have := h5.size; omega) o⟩))
      have kD : Hid (∀ W : World, (W.cell? ⟨ns, 0, none⟩ = some (.int .u32 (r.a.toNat : Int)) ∧ W.cell? ⟨ns, 1, none⟩ = some (.int .u32 (r.b.toNat : Int)) ∧ W.cell? ⟨ns, 2, none⟩ = some (.int .u32 (r.c.toNat : Int)) ∧ W.cell? ⟨ns, 3, none⟩ = some (.int .u32 (r.d.toNat : Int)) ∧ W.cell? ⟨ns, 4, none⟩ = some (.int .u32 (r.e.toNat : Int)) ∧ W.cell? ⟨ns, 5, none⟩ = some (.int .u32 (r.f.toNat : Int)) ∧ W.cell? ⟨ns, 6, none⟩ = some (.int .u32 (r.g.toNat : Int)) ∧ W.cell? ⟨ns, 7, none⟩ = some (.int .u32 (r.h.toNat : Int)) ∧ W.cell? ⟨nk, t, none⟩ = some (.int .u32 (kk.toNat : Int)) ∧ SS W) → W.drew.cell? ⟨ns, 0, none⟩ = some (.int .u32 (r.a.toNat : Int)) ∧ W.drew.cell? ⟨ns, 1, none⟩ = some (.int .u32 (r.b.toNat : Int)) ∧ W.drew.cell? ⟨ns, 2, none⟩ = some (.int .u32 (r.c.toNat : Int)) ∧ W.drew.cell? ⟨ns, 3, none⟩ = some (.int .u32 (r.d.toNat : Int)) ∧ W.drew.cell? ⟨ns, 4, none⟩ = some (.int .u32 (r.e.toNat : Int)) ∧ W.drew.cell? ⟨ns, 5, none⟩ = some (.int .u32 (r.f.toNat : Int)) ∧ W.drew.cell? ⟨ns, 6, none⟩ = some (.int .u32 (r.g.toNat : Int)) ∧ W.drew.cell? ⟨ns, 7, none⟩ = some (.int .u32 (r.h.toNat : Int)) ∧ W.drew.cell? ⟨nk, t, none⟩ = some (.int .u32 (kk.toNat : Int)) ∧ SS W.drew) := hid (by
        rintro W ⟨-, -, -, -, -, -, -, -, -, h⟩
        obtain ⟨h1, h2, h3, h4, h5⟩ := (hSS W).1 h
        exact atC _ ((hSS W.drew).2 ⟨h1, h2, h3, h4, h5.drewN 1⟩))
      have cT : Hid (∀ (x : W32) (l : List Nat) (v : Value) (W : World), Sl W 1 encN v l → (l = [6, 11, 25] ∨ l = [2, 13, 22]) → Calls Try.prog 81 #[.int .u32 (x.toNat : Int), v] W fun e w' => e = .returned (.int .u32 ((turnW x l).toNat : Int)) ∧ w' = W) :=
        hid fun x l v W hv hh => turned_any x l v W (by rintro n hn; rcases hh with rfl | rfl <;> simp at hn <;> omega) hv
      have st0 := atC wr ((hSS wr).2 ⟨g0, g1, gk, gr, hB⟩)
      have kSS : Hid (∀ W : World, SS W → W.heap[n₀]? = some (.cells (rowW s.l) 110 (0, 0)) ∧ W.heap[n₀ + 1]? = some (.cells #[.int .u32 0, .int .u32 0, .int .u32 0, .int .u32 0, .int .u32 0, .int .u32 0, .int .u32 0, .int .u32 0] 110 (0, 0)) ∧ W.heap[nk]? = some (.cells (rowW kW) 118 (0, 0)) ∧ W.heap[ns]? = some (.cells (rowW r.l) 110 (0, 0)) ∧ Below n₀ w W) := hid fun W h => (hSS W).1 h
      have hi8 : (Try.prog.info? 110).map (·.size) = some (rowW (⟨Z0, r.a, r.b, r.c, Z4, r.e, r.f, r.g⟩ : H8).l).size := by rw [rowW_size]; kernel_rfl
      have kT : Hid (∀ W : World, (W.cell? ⟨ns, 0, none⟩ = some (.int .u32 (r.a.toNat : Int)) ∧ W.cell? ⟨ns, 1, none⟩ = some (.int .u32 (r.b.toNat : Int)) ∧ W.cell? ⟨ns, 2, none⟩ = some (.int .u32 (r.c.toNat : Int)) ∧ W.cell? ⟨ns, 3, none⟩ = some (.int .u32 (r.d.toNat : Int)) ∧ W.cell? ⟨ns, 4, none⟩ = some (.int .u32 (r.e.toNat : Int)) ∧ W.cell? ⟨ns, 5, none⟩ = some (.int .u32 (r.f.toNat : Int)) ∧ W.cell? ⟨ns, 6, none⟩ = some (.int .u32 (r.g.toNat : Int)) ∧ W.cell? ⟨ns, 7, none⟩ = some (.int .u32 (r.h.toNat : Int)) ∧ W.cell? ⟨nk, t, none⟩ = some (.int .u32 (kk.toNat : Int)) ∧ SS W) → W.there ns 0 (rowW (⟨Z0, r.a, r.b, r.c, Z4, r.e, r.f, r.g⟩ : H8).l).size) := hid (by
        rintro W ⟨-, -, -, -, -, -, -, -, -, h⟩
        exact there_blk ((hSS W).1 h).2.2.2.1 (by rw [rowW_size, rowW_size]; rfl))
      have kE : Hid (∀ W : World, (W.cell? ⟨ns, 0, none⟩ = some (.int .u32 (r.a.toNat : Int)) ∧ W.cell? ⟨ns, 1, none⟩ = some (.int .u32 (r.b.toNat : Int)) ∧ W.cell? ⟨ns, 2, none⟩ = some (.int .u32 (r.c.toNat : Int)) ∧ W.cell? ⟨ns, 3, none⟩ = some (.int .u32 (r.d.toNat : Int)) ∧ W.cell? ⟨ns, 4, none⟩ = some (.int .u32 (r.e.toNat : Int)) ∧ W.cell? ⟨ns, 5, none⟩ = some (.int .u32 (r.f.toNat : Int)) ∧ W.cell? ⟨ns, 6, none⟩ = some (.int .u32 (r.g.toNat : Int)) ∧ W.cell? ⟨ns, 7, none⟩ = some (.int .u32 (r.h.toNat : Int)) ∧ W.cell? ⟨nk, t, none⟩ = some (.int .u32 (kk.toNat : Int)) ∧ SS W) → (W.setCells ns 0 (rowW (⟨Z0, r.a, r.b, r.c, Z4, r.e, r.f, r.g⟩ : H8).l).toList).heap[n₀]? = some (.cells (rowW s.l) 110 (0, 0)) ∧ (W.setCells ns 0 (rowW (⟨Z0, r.a, r.b, r.c, Z4, r.e, r.f, r.g⟩ : H8).l).toList).heap[n₀ + 1]? = some (.cells #[.int .u32 0, .int .u32 0, .int .u32 0, .int .u32 0, .int .u32 0, .int .u32 0, .int .u32 0, .int .u32 0] 110 (0, 0)) ∧ (W.setCells ns 0 (rowW (⟨Z0, r.a, r.b, r.c, Z4, r.e, r.f, r.g⟩ : H8).l).toList).heap[nk]? = some (.cells (rowW kW) 118 (0, 0)) ∧ (W.setCells ns 0 (rowW (⟨Z0, r.a, r.b, r.c, Z4, r.e, r.f, r.g⟩ : H8).l).toList).heap[ns]? = some (.cells (rowW (run8 s WS (t + 1)).l) 110 (0, 0)) ∧ Below n₀ w (W.setCells ns 0 (rowW (⟨Z0, r.a, r.b, r.c, Z4, r.e, r.f, r.g⟩ : H8).l).toList)) := hid (by
        rintro W ⟨-, -, -, -, -, -, -, -, -, h⟩
        obtain ⟨h1, h2, h3, h4, h5⟩ := (hSS W).1 h
        have u := (Upd.refl h4).setCells (rowW (⟨Z0, r.a, r.b, r.c, Z4, r.e, r.f, r.g⟩ : H8).l).toList (by rw [Array.length_toList, rowW_size, rowW_size]; rfl)
        refine ⟨(u.off _ (by omega)).trans h1, (u.off _ (by omega)).trans h2, (u.off _ (by omega)).trans h3, ?_, u.below h5 (by omega)⟩
        rw [hrs]
        have h9 := u.here
        rw [Array.toArray_toList] at h9
        exact h9)
      clear atC hSS hkk hww hr hst g0 g1 gk gr hB hX1 hP1 hN1 hP2 hP3 hX2 hX3 hX4 hQ1 hQ2 hQ3 hQ4 hQ5 hY1 hZ0 hZ4
      replace hrs := hid hrs
      go_upto_region 6 with (fail)
      have st : Hid (wr.drew.cell? ⟨ns, 0, none⟩ = some (.int .u32 (r.a.toNat : Int)) ∧ wr.drew.cell? ⟨ns, 1, none⟩ = some (.int .u32 (r.b.toNat : Int)) ∧ wr.drew.cell? ⟨ns, 2, none⟩ = some (.int .u32 (r.c.toNat : Int)) ∧ wr.drew.cell? ⟨ns, 3, none⟩ = some (.int .u32 (r.d.toNat : Int)) ∧ wr.drew.cell? ⟨ns, 4, none⟩ = some (.int .u32 (r.e.toNat : Int)) ∧ wr.drew.cell? ⟨ns, 5, none⟩ = some (.int .u32 (r.f.toNat : Int)) ∧ wr.drew.cell? ⟨ns, 6, none⟩ = some (.int .u32 (r.g.toNat : Int)) ∧ wr.drew.cell? ⟨ns, 7, none⟩ = some (.int .u32 (r.h.toNat : Int)) ∧ wr.drew.cell? ⟨nk, t, none⟩ = some (.int .u32 (kk.toNat : Int)) ∧ SS wr.drew) := hid ((Hid.out kD) _ st0)
      clear st0
      refine wp_region_held_drew (S := (fun W => W.cell? ⟨ns, 0, none⟩ = some (.int .u32 (r.a.toNat : Int)) ∧ W.cell? ⟨ns, 1, none⟩ = some (.int .u32 (r.b.toNat : Int)) ∧ W.cell? ⟨ns, 2, none⟩ = some (.int .u32 (r.c.toNat : Int)) ∧ W.cell? ⟨ns, 3, none⟩ = some (.int .u32 (r.d.toNat : Int)) ∧ W.cell? ⟨ns, 4, none⟩ = some (.int .u32 (r.e.toNat : Int)) ∧ W.cell? ⟨ns, 5, none⟩ = some (.int .u32 (r.f.toNat : Int)) ∧ W.cell? ⟨ns, 6, none⟩ = some (.int .u32 (r.g.toNat : Int)) ∧ W.cell? ⟨ns, 7, none⟩ = some (.int .u32 (r.h.toNat : Int)) ∧ W.cell? ⟨nk, t, none⟩ = some (.int .u32 (kk.toNat : Int)) ∧ SS W)) (by kernel_rfl) (Hid.out st) (fun hHeld => ?_)
      refine wpAnyH_take (i := 0) (oi := ⟨some 20, _, _, _, _, _⟩) (v := ?_) rfl (by kernel_rfl) (by kernel_rfl) (by kernel_rfl) (fun _ _ _ h => h) (Or.inl ⟨by rfl, ?_⟩) (by assumption) ?_
      rotate_left
      · intro w hSw; (try dsimp only at hSw); go_simp <;> with_reducible rfl
      try simp only [Act.put, List.setIfInBounds_toArray, List.set_cons_zero, List.set_cons_succ]
      refine wpAnyH_take (i := 1) (oi := ⟨some 21, _, _, _, _, _⟩) (v := ?_) rfl (by kernel_rfl) (by kernel_rfl) (by kernel_rfl) (fun _ _ _ h => h) (Or.inl ⟨by rfl, ?_⟩) (by assumption) ?_
      rotate_left
      · intro w hSw; (try dsimp only at hSw); go_simp <;> with_reducible rfl
      try simp only [Act.put, List.setIfInBounds_toArray, List.set_cons_zero, List.set_cons_succ]
      refine wpAnyH_take (i := 2) (oi := ⟨some 22, _, _, _, _, _⟩) (v := ?_) rfl (by kernel_rfl) (by kernel_rfl) (by kernel_rfl) (fun _ _ _ h => h) (Or.inl ⟨by rfl, ?_⟩) (by assumption) ?_
      rotate_left
      · intro w hSw; (try dsimp only at hSw); go_simp <;> with_reducible rfl
      try simp only [Act.put, List.setIfInBounds_toArray, List.set_cons_zero, List.set_cons_succ]
      refine wpAnyH_take (i := 3) (oi := ⟨some 23, _, _, _, _, _⟩) (v := ?_) rfl (by kernel_rfl) (by kernel_rfl) (by kernel_rfl) (fun _ _ _ h => h) (Or.inl ⟨by rfl, ?_⟩) (by assumption) ?_
      rotate_left
      · intro w hSw; (try dsimp only at hSw); go_simp <;> with_reducible rfl
      try simp only [Act.put, List.setIfInBounds_toArray, List.set_cons_zero, List.set_cons_succ]
      refine wpAnyH_take (i := 7) (oi := ⟨some 27, _, _, _, _, _⟩) (v := ?_) rfl (by kernel_rfl) (by kernel_rfl) (by kernel_rfl) (fun _ _ _ h => h) (Or.inl ⟨by rfl, ?_⟩) (by assumption) ?_
      rotate_left
      · intro w hSw; (try dsimp only at hSw); go_simp <;> with_reducible rfl
      try simp only [Act.put, List.setIfInBounds_toArray, List.set_cons_zero, List.set_cons_succ]
      refine wpAnyH_take (i := 8) (oi := ⟨some 28, _, _, _, _, _⟩) (v := ?_) rfl (by kernel_rfl) (by kernel_rfl) (by kernel_rfl) (fun _ _ _ h => h) (Or.inl ⟨by rfl, ?_⟩) (by assumption) ?_
      rotate_left
      · intro w hSw; (try dsimp only at hSw); go_simp <;> with_reducible rfl
      try simp only [Act.put, List.setIfInBounds_toArray, List.set_cons_zero, List.set_cons_succ]
      refine wpAnyH_take (i := 9) (oi := ⟨some 29, _, _, _, _, _⟩) (v := ?_) rfl (by kernel_rfl) (by kernel_rfl) (by kernel_rfl) (fun _ _ _ h => h) (Or.inl ⟨by rfl, ?_⟩) (by assumption) ?_
      rotate_left
      · intro w hSw; (try dsimp only at hSw); go_simp <;> with_reducible rfl
      try simp only [Act.put, List.setIfInBounds_toArray, List.set_cons_zero, List.set_cons_succ]
      refine wpAnyH_take (i := 10) (oi := ⟨some 30, _, _, _, _, _⟩) (v := ?_) rfl (by kernel_rfl) (by kernel_rfl) (by kernel_rfl) (fun _ _ _ h => h) (Or.inl ⟨by rfl, ?_⟩) (by assumption) ?_
      rotate_left
      · intro w hSw; (try dsimp only at hSw); go_simp <;> with_reducible rfl
      try simp only [Act.put, List.setIfInBounds_toArray, List.set_cons_zero, List.set_cons_succ]
      refine wpAnyH_take (i := 11) (oi := ⟨some 31, _, _, _, _, _⟩) (v := ?_) rfl (by kernel_rfl) (by kernel_rfl) (by kernel_rfl) (fun _ _ _ h => h) (Or.inl ⟨by rfl, ?_⟩) (by assumption) ?_
      rotate_left
      · intro w hSw; (try dsimp only at hSw); go_simp <;> with_reducible rfl
      try simp only [Act.put, List.setIfInBounds_toArray, List.set_cons_zero, List.set_cons_succ]
      refine wpAnyH_take (i := 12) (oi := ⟨some 32, _, _, _, _, _⟩) (v := ?_) rfl (by kernel_rfl) (by kernel_rfl) (by kernel_rfl) (fun _ _ _ h => h) (Or.inl ⟨by rfl, ?_⟩) (by assumption) ?_
      rotate_left
      · intro w hSw; (try dsimp only at hSw); go_simp <;> with_reducible rfl
      try simp only [Act.put, List.setIfInBounds_toArray, List.set_cons_zero, List.set_cons_succ]
      refine wpAnyH_take (i := 13) (oi := ⟨some 33, _, _, _, _, _⟩) (v := ?_) rfl (by kernel_rfl) (by kernel_rfl) (by kernel_rfl) (fun _ _ _ h => h) (Or.inl ⟨by rfl, ?_⟩) (by assumption) ?_
      rotate_left
      · intro w hSw; (try dsimp only at hSw); go_simp <;> with_reducible rfl
      try simp only [Act.put, List.setIfInBounds_toArray, List.set_cons_zero, List.set_cons_succ]
      refine wpAnyH_take (i := 14) (oi := ⟨some 34, _, _, _, _, _⟩) (v := ?_) rfl (by kernel_rfl) (by kernel_rfl) (by kernel_rfl) (fun _ _ _ h => h) (Or.inl ⟨by rfl, ?_⟩) (by assumption) ?_
      rotate_left
      · intro w hSw; (try dsimp only at hSw); go_simp <;> with_reducible rfl
      try simp only [Act.put, List.setIfInBounds_toArray, List.set_cons_zero, List.set_cons_succ]
      refine wpAnyH_take (i := 15) (oi := ⟨some 35, _, _, _, _, _⟩) (v := ?_) rfl (by kernel_rfl) (by kernel_rfl) (by kernel_rfl) (fun _ _ _ h => h) (Or.inl ⟨by rfl, ?_⟩) (by assumption) ?_
      rotate_left
      · intro w hSw; (try dsimp only at hSw); go_simp <;> with_reducible rfl
      try simp only [Act.put, List.setIfInBounds_toArray, List.set_cons_zero, List.set_cons_succ]
      refine wpAnyH_take (i := 16) (oi := ⟨some 36, _, _, _, _, _⟩) (v := ?_) rfl (by kernel_rfl) (by kernel_rfl) (by kernel_rfl) (fun _ _ _ h => h) (Or.inl ⟨by rfl, ?_⟩) (by assumption) ?_
      rotate_left
      · intro w hSw; (try dsimp only at hSw); go_simp <;> with_reducible rfl
      try simp only [Act.put, List.setIfInBounds_toArray, List.set_cons_zero, List.set_cons_succ]
      refine wpAnyH_take (i := 17) (oi := ⟨some 37, _, _, _, _, _⟩) (v := ?_) rfl (by kernel_rfl) (by kernel_rfl) (by kernel_rfl) (fun _ _ _ h => h) (Or.inl ⟨by rfl, ?_⟩) (by assumption) ?_
      rotate_left
      · intro w hSw; (try dsimp only at hSw); go_simp <;> with_reducible rfl
      try simp only [Act.put, List.setIfInBounds_toArray, List.set_cons_zero, List.set_cons_succ]
      refine wpAnyH_take (i := 18) (oi := ⟨some 38, _, _, _, _, _⟩) (v := ?_) rfl (by kernel_rfl) (by kernel_rfl) (by kernel_rfl) (fun _ _ _ h => h) (Or.inl ⟨by rfl, ?_⟩) (by assumption) ?_
      rotate_left
      · intro w hSw; (try dsimp only at hSw); go_simp <;> with_reducible rfl
      try simp only [Act.put, List.setIfInBounds_toArray, List.set_cons_zero, List.set_cons_succ]
      refine wpAnyH_take (i := 20) (oi := ⟨some 40, _, _, _, _, _⟩) (v := ?_) rfl (by kernel_rfl) (by kernel_rfl) (by kernel_rfl) (fun _ _ _ h => h) (Or.inl ⟨by rfl, ?_⟩) (by assumption) ?_
      rotate_left
      · intro w hSw; (try dsimp only at hSw); go_simp <;> with_reducible rfl
      try simp only [Act.put, List.setIfInBounds_toArray, List.set_cons_zero, List.set_cons_succ]
      refine wpAnyH_take (i := 21) (oi := ⟨some 41, _, _, _, _, _⟩) (v := ?_) rfl (by kernel_rfl) (by kernel_rfl) (by kernel_rfl) (fun _ _ _ h => h) (Or.inl ⟨by rfl, ?_⟩) (by assumption) ?_
      rotate_left
      · intro w hSw; (try dsimp only at hSw); go_simp <;> with_reducible rfl
      try simp only [Act.put, List.setIfInBounds_toArray, List.set_cons_zero, List.set_cons_succ]
      refine wpAnyH_take (i := 22) (oi := ⟨some 42, _, _, _, _, _⟩) (v := ?_) rfl (by kernel_rfl) (by kernel_rfl) (by kernel_rfl) (fun _ _ _ h => h) (Or.inl ⟨by rfl, ?_⟩) (by assumption) ?_
      rotate_left
      · intro w hSw; (try dsimp only at hSw); go_simp <;> with_reducible rfl
      try simp only [Act.put, List.setIfInBounds_toArray, List.set_cons_zero, List.set_cons_succ]
      refine wpAnyH_take (i := 24) (oi := ⟨some 44, _, _, _, _, _⟩) (v := ?_) rfl (by kernel_rfl) (by kernel_rfl) (by kernel_rfl) (fun _ _ _ h => h) (Or.inl ⟨by rfl, ?_⟩) (by assumption) ?_
      rotate_left
      · intro w hSw; (try dsimp only at hSw); go_simp <;> with_reducible rfl
      try simp only [Act.put, List.setIfInBounds_toArray, List.set_cons_zero, List.set_cons_succ]
      refine wpAnyH_ready (rs := [4]) (by kernel_rfl) (by simp) ?_
      refine AllReadyH.cons rfl (fun K hK => ?_) AllReadyH.nil
      go_simp
      refine hK.out _ _ ((Hid.out kA) _ _ (by assumption)) (fun hHeld => ?_)
      clear hK K
      try simp only [Act.put, List.setIfInBounds_toArray, List.set_cons_zero, List.set_cons_succ]
      refine wpAnyH_ready (rs := [5]) (by kernel_rfl) (by simp) ?_
      refine AllReadyH.cons rfl (fun K hK => ?_) AllReadyH.nil
      go_simp
      refine (cT.out _ _ _ _ (sl3x _ _) (by first | exact .inl rfl | exact .inr rfl)).mono ?_
      rintro e w' ⟨rfl, rfl⟩
      rw [hT1]
      refine hK.out _ _ (by assumption) (fun hHeld => ?_)
      clear hK K
      try simp only [Act.put, List.setIfInBounds_toArray, List.set_cons_zero, List.set_cons_succ]
      refine wpAnyH_take (i := 6) (oi := ⟨some 26, _, _, _, _, _⟩) (v := ?_) rfl (by kernel_rfl) (by kernel_rfl) (by kernel_rfl) (fun _ _ _ h => h) (Or.inl ⟨by rfl, ?_⟩) (by assumption) ?_
      rotate_left
      · intro w hSw; (try dsimp only at hSw); go_simp <;> with_reducible rfl
      try simp only [Act.put, List.setIfInBounds_toArray, List.set_cons_zero, List.set_cons_succ]
      refine wpAnyH_take (i := 19) (oi := ⟨some 39, _, _, _, _, _⟩) (v := ?_) rfl (by kernel_rfl) (by kernel_rfl) (by kernel_rfl) (fun _ _ _ h => h) (Or.inl ⟨by rfl, ?_⟩) (by assumption) ?_
      rotate_left
      · intro w hSw; (try dsimp only at hSw); go_simp <;> with_reducible rfl
      try simp only [Act.put, List.setIfInBounds_toArray, List.set_cons_zero, List.set_cons_succ]
      refine wpAnyH_take (i := 23) (oi := ⟨some 43, _, _, _, _, _⟩) (v := ?_) rfl (by kernel_rfl) (by kernel_rfl) (by kernel_rfl) (fun _ _ _ h => h) (Or.inl ⟨by rfl, ?_⟩) (by assumption) ?_
      rotate_left
      · intro w hSw; (try dsimp only at hSw); go_simp <;> with_reducible rfl
      try simp only [Act.put, List.setIfInBounds_toArray, List.set_cons_zero, List.set_cons_succ]
      refine wpAnyH_take (i := 25) (oi := ⟨some 45, _, _, _, _, _⟩) (v := ?_) rfl (by kernel_rfl) (by kernel_rfl) (by kernel_rfl) (fun _ _ _ h => h) (Or.inl ⟨by rfl, ?_⟩) (by assumption) ?_
      rotate_left
      · intro w hSw; (try dsimp only at hSw); go_simp <;> with_reducible rfl
      try simp only [Act.put, List.setIfInBounds_toArray, List.set_cons_zero, List.set_cons_succ]
      refine wpAnyH_take (i := 26) (oi := ⟨some 9, _, _, _, _, _⟩) (v := ?_) rfl (by kernel_rfl) (by kernel_rfl) (by kernel_rfl) (fun _ _ _ h => h) (Or.inl ⟨by rfl, ?_⟩) (by assumption) ?_
      rotate_left
      · intro w hSw; (try dsimp only at hSw); go_simp <;> with_reducible rfl
      try simp only [Act.put, List.setIfInBounds_toArray, List.set_cons_zero, List.set_cons_succ]
      refine wpAnyH_done (by kernel_rfl) ?_ _
      go_upto_region 7 with (fail)
      obtain ⟨wq, hwq⟩ : ∃ W : World, W = (wr.alloc (.cells #[.int .i64 6, .int .i64 11, .int .i64 25] 3)).drew := ⟨_, rfl⟩
      have stq : wq.cell? ⟨ns, 0, none⟩ = some (.int .u32 (r.a.toNat : Int)) ∧ wq.cell? ⟨ns, 1, none⟩ = some (.int .u32 (r.b.toNat : Int)) ∧ wq.cell? ⟨ns, 2, none⟩ = some (.int .u32 (r.c.toNat : Int)) ∧ wq.cell? ⟨ns, 3, none⟩ = some (.int .u32 (r.d.toNat : Int)) ∧ wq.cell? ⟨ns, 4, none⟩ = some (.int .u32 (r.e.toNat : Int)) ∧ wq.cell? ⟨ns, 5, none⟩ = some (.int .u32 (r.f.toNat : Int)) ∧ wq.cell? ⟨ns, 6, none⟩ = some (.int .u32 (r.g.toNat : Int)) ∧ wq.cell? ⟨ns, 7, none⟩ = some (.int .u32 (r.h.toNat : Int)) ∧ wq.cell? ⟨nk, t, none⟩ = some (.int .u32 (kk.toNat : Int)) ∧ SS wq := by rw [hwq]; assumption
      rw [← hwq]
      clear hwq st hHeld
      have st := hid ((Hid.out kD) _ stq)
      clear stq
      refine wp_region_held_drew (S := (fun W => W.cell? ⟨ns, 0, none⟩ = some (.int .u32 (r.a.toNat : Int)) ∧ W.cell? ⟨ns, 1, none⟩ = some (.int .u32 (r.b.toNat : Int)) ∧ W.cell? ⟨ns, 2, none⟩ = some (.int .u32 (r.c.toNat : Int)) ∧ W.cell? ⟨ns, 3, none⟩ = some (.int .u32 (r.d.toNat : Int)) ∧ W.cell? ⟨ns, 4, none⟩ = some (.int .u32 (r.e.toNat : Int)) ∧ W.cell? ⟨ns, 5, none⟩ = some (.int .u32 (r.f.toNat : Int)) ∧ W.cell? ⟨ns, 6, none⟩ = some (.int .u32 (r.g.toNat : Int)) ∧ W.cell? ⟨ns, 7, none⟩ = some (.int .u32 (r.h.toNat : Int)) ∧ W.cell? ⟨nk, t, none⟩ = some (.int .u32 (kk.toNat : Int)) ∧ SS W)) (by kernel_rfl) (Hid.out st) (fun hHeld => ?_)
      refine wpAnyH_take (i := 0) (oi := ⟨some 46, _, _, _, _, _⟩) (v := ?_) rfl (by kernel_rfl) (by kernel_rfl) (by kernel_rfl) (fun _ _ _ h => h) (Or.inl ⟨by rfl, ?_⟩) (by assumption) ?_
      rotate_left
      · intro w hSw; (try dsimp only at hSw); go_simp <;> with_reducible rfl
      try simp only [Act.put, List.setIfInBounds_toArray, List.set_cons_zero, List.set_cons_succ]
      refine wpAnyH_take (i := 1) (oi := ⟨some 47, _, _, _, _, _⟩) (v := ?_) rfl (by kernel_rfl) (by kernel_rfl) (by kernel_rfl) (fun _ _ _ h => h) (Or.inl ⟨by rfl, ?_⟩) (by assumption) ?_
      rotate_left
      · intro w hSw; (try dsimp only at hSw); go_simp <;> with_reducible rfl
      try simp only [Act.put, List.setIfInBounds_toArray, List.set_cons_zero, List.set_cons_succ]
      refine wpAnyH_take (i := 4) (oi := ⟨some 50, _, _, _, _, _⟩) (v := ?_) rfl (by kernel_rfl) (by kernel_rfl) (by kernel_rfl) (fun _ _ _ h => h) (Or.inl ⟨by rfl, ?_⟩) (by assumption) ?_
      rotate_left
      · intro w hSw; (try dsimp only at hSw); go_simp <;> with_reducible rfl
      try simp only [Act.put, List.setIfInBounds_toArray, List.set_cons_zero, List.set_cons_succ]
      refine wpAnyH_take (i := 5) (oi := ⟨some 51, _, _, _, _, _⟩) (v := ?_) rfl (by kernel_rfl) (by kernel_rfl) (by kernel_rfl) (fun _ _ _ h => h) (Or.inl ⟨by rfl, ?_⟩) (by assumption) ?_
      rotate_left
      · intro w hSw; (try dsimp only at hSw); go_simp <;> with_reducible rfl
      try simp only [Act.put, List.setIfInBounds_toArray, List.set_cons_zero, List.set_cons_succ]
      refine wpAnyH_take (i := 6) (oi := ⟨some 52, _, _, _, _, _⟩) (v := ?_) rfl (by kernel_rfl) (by kernel_rfl) (by kernel_rfl) (fun _ _ _ h => h) (Or.inl ⟨by rfl, ?_⟩) (by assumption) ?_
      rotate_left
      · intro w hSw; (try dsimp only at hSw); go_simp <;> with_reducible rfl
      try simp only [Act.put, List.setIfInBounds_toArray, List.set_cons_zero, List.set_cons_succ]
      refine wpAnyH_take (i := 7) (oi := ⟨some 53, _, _, _, _, _⟩) (v := ?_) rfl (by kernel_rfl) (by kernel_rfl) (by kernel_rfl) (fun _ _ _ h => h) (Or.inl ⟨by rfl, ?_⟩) (by assumption) ?_
      rotate_left
      · intro w hSw; (try dsimp only at hSw); go_simp <;> with_reducible rfl
      try simp only [Act.put, List.setIfInBounds_toArray, List.set_cons_zero, List.set_cons_succ]
      refine wpAnyH_take (i := 8) (oi := ⟨some 54, _, _, _, _, _⟩) (v := ?_) rfl (by kernel_rfl) (by kernel_rfl) (by kernel_rfl) (fun _ _ _ h => h) (Or.inl ⟨by rfl, ?_⟩) (by assumption) ?_
      rotate_left
      · intro w hSw; (try dsimp only at hSw); go_simp <;> with_reducible rfl
      try simp only [Act.put, List.setIfInBounds_toArray, List.set_cons_zero, List.set_cons_succ]
      refine wpAnyH_take (i := 9) (oi := ⟨some 55, _, _, _, _, _⟩) (v := ?_) rfl (by kernel_rfl) (by kernel_rfl) (by kernel_rfl) (fun _ _ _ h => h) (Or.inl ⟨by rfl, ?_⟩) (by assumption) ?_
      rotate_left
      · intro w hSw; (try dsimp only at hSw); go_simp <;> with_reducible rfl
      try simp only [Act.put, List.setIfInBounds_toArray, List.set_cons_zero, List.set_cons_succ]
      refine wpAnyH_take (i := 10) (oi := ⟨some 56, _, _, _, _, _⟩) (v := ?_) rfl (by kernel_rfl) (by kernel_rfl) (by kernel_rfl) (fun _ _ _ h => h) (Or.inl ⟨by rfl, ?_⟩) (by assumption) ?_
      rotate_left
      · intro w hSw; (try dsimp only at hSw); go_simp <;> with_reducible rfl
      try simp only [Act.put, List.setIfInBounds_toArray, List.set_cons_zero, List.set_cons_succ]
      refine wpAnyH_take (i := 11) (oi := ⟨some 57, _, _, _, _, _⟩) (v := ?_) rfl (by kernel_rfl) (by kernel_rfl) (by kernel_rfl) (fun _ _ _ h => h) (Or.inl ⟨by rfl, ?_⟩) (by assumption) ?_
      rotate_left
      · intro w hSw; (try dsimp only at hSw); go_simp <;> with_reducible rfl
      try simp only [Act.put, List.setIfInBounds_toArray, List.set_cons_zero, List.set_cons_succ]
      refine wpAnyH_take (i := 12) (oi := ⟨some 58, _, _, _, _, _⟩) (v := ?_) rfl (by kernel_rfl) (by kernel_rfl) (by kernel_rfl) (fun _ _ _ h => h) (Or.inl ⟨by rfl, ?_⟩) (by assumption) ?_
      rotate_left
      · intro w hSw; (try dsimp only at hSw); go_simp <;> with_reducible rfl
      try simp only [Act.put, List.setIfInBounds_toArray, List.set_cons_zero, List.set_cons_succ]
      refine wpAnyH_take (i := 13) (oi := ⟨some 59, _, _, _, _, _⟩) (v := ?_) rfl (by kernel_rfl) (by kernel_rfl) (by kernel_rfl) (fun _ _ _ h => h) (Or.inl ⟨by rfl, ?_⟩) (by assumption) ?_
      rotate_left
      · intro w hSw; (try dsimp only at hSw); go_simp <;> with_reducible rfl
      try simp only [Act.put, List.setIfInBounds_toArray, List.set_cons_zero, List.set_cons_succ]
      refine wpAnyH_take (i := 14) (oi := ⟨some 60, _, _, _, _, _⟩) (v := ?_) rfl (by kernel_rfl) (by kernel_rfl) (by kernel_rfl) (fun _ _ _ h => h) (Or.inl ⟨by rfl, ?_⟩) (by assumption) ?_
      rotate_left
      · intro w hSw; (try dsimp only at hSw); go_simp <;> with_reducible rfl
      try simp only [Act.put, List.setIfInBounds_toArray, List.set_cons_zero, List.set_cons_succ]
      refine wpAnyH_take (i := 15) (oi := ⟨some 61, _, _, _, _, _⟩) (v := ?_) rfl (by kernel_rfl) (by kernel_rfl) (by kernel_rfl) (fun _ _ _ h => h) (Or.inl ⟨by rfl, ?_⟩) (by assumption) ?_
      rotate_left
      · intro w hSw; (try dsimp only at hSw); go_simp <;> with_reducible rfl
      try simp only [Act.put, List.setIfInBounds_toArray, List.set_cons_zero, List.set_cons_succ]
      refine wpAnyH_take (i := 16) (oi := ⟨some 62, _, _, _, _, _⟩) (v := ?_) rfl (by kernel_rfl) (by kernel_rfl) (by kernel_rfl) (fun _ _ _ h => h) (Or.inl ⟨by rfl, ?_⟩) (by assumption) ?_
      rotate_left
      · intro w hSw; (try dsimp only at hSw); go_simp <;> with_reducible rfl
      try simp only [Act.put, List.setIfInBounds_toArray, List.set_cons_zero, List.set_cons_succ]
      refine wpAnyH_take (i := 17) (oi := ⟨some 63, _, _, _, _, _⟩) (v := ?_) rfl (by kernel_rfl) (by kernel_rfl) (by kernel_rfl) (fun _ _ _ h => h) (Or.inl ⟨by rfl, ?_⟩) (by assumption) ?_
      rotate_left
      · intro w hSw; (try dsimp only at hSw); go_simp <;> with_reducible rfl
      try simp only [Act.put, List.setIfInBounds_toArray, List.set_cons_zero, List.set_cons_succ]
      refine wpAnyH_take (i := 18) (oi := ⟨some 64, _, _, _, _, _⟩) (v := ?_) rfl (by kernel_rfl) (by kernel_rfl) (by kernel_rfl) (fun _ _ _ h => h) (Or.inl ⟨by rfl, ?_⟩) (by assumption) ?_
      rotate_left
      · intro w hSw; (try dsimp only at hSw); go_simp <;> with_reducible rfl
      try simp only [Act.put, List.setIfInBounds_toArray, List.set_cons_zero, List.set_cons_succ]
      refine wpAnyH_take (i := 19) (oi := ⟨some 65, _, _, _, _, _⟩) (v := ?_) rfl (by kernel_rfl) (by kernel_rfl) (by kernel_rfl) (fun _ _ _ h => h) (Or.inl ⟨by rfl, ?_⟩) (by assumption) ?_
      rotate_left
      · intro w hSw; (try dsimp only at hSw); go_simp <;> with_reducible rfl
      try simp only [Act.put, List.setIfInBounds_toArray, List.set_cons_zero, List.set_cons_succ]
      refine wpAnyH_take (i := 20) (oi := ⟨some 66, _, _, _, _, _⟩) (v := ?_) rfl (by kernel_rfl) (by kernel_rfl) (by kernel_rfl) (fun _ _ _ h => h) (Or.inl ⟨by rfl, ?_⟩) (by assumption) ?_
      rotate_left
      · intro w hSw; (try dsimp only at hSw); go_simp <;> with_reducible rfl
      try simp only [Act.put, List.setIfInBounds_toArray, List.set_cons_zero, List.set_cons_succ]
      refine wpAnyH_ready (rs := [2]) (by kernel_rfl) (by simp) ?_
      refine AllReadyH.cons rfl (fun K hK => ?_) AllReadyH.nil
      go_simp
      refine hK.out _ _ ((Hid.out kA) _ _ (by assumption)) (fun hHeld => ?_)
      clear hK K
      try simp only [Act.put, List.setIfInBounds_toArray, List.set_cons_zero, List.set_cons_succ]
      refine wpAnyH_ready (rs := [3]) (by kernel_rfl) (by simp) ?_
      refine AllReadyH.cons rfl (fun K hK => ?_) AllReadyH.nil
      go_simp
      refine (cT.out _ _ _ _ (sl3y _ _) (by first | exact .inl rfl | exact .inr rfl)).mono ?_
      rintro e w' ⟨rfl, rfl⟩
      rw [hT2]
      refine hK.out _ _ (by assumption) (fun hHeld => ?_)
      clear hK K
      try simp only [Act.put, List.setIfInBounds_toArray, List.set_cons_zero, List.set_cons_succ]
      refine wpAnyH_take (i := 21) (oi := ⟨some 67, _, _, _, _, _⟩) (v := ?_) rfl (by kernel_rfl) (by kernel_rfl) (by kernel_rfl) (fun _ _ _ h => h) (Or.inl ⟨by rfl, ?_⟩) (by assumption) ?_
      rotate_left
      · intro w hSw; (try dsimp only at hSw); go_simp <;> with_reducible rfl
      try simp only [Act.put, List.setIfInBounds_toArray, List.set_cons_zero, List.set_cons_succ]
      refine wpAnyH_take (i := 22) (oi := ⟨some 10, _, _, _, _, _⟩) (v := ?_) rfl (by kernel_rfl) (by kernel_rfl) (by kernel_rfl) (fun _ _ _ h => h) (Or.inl ⟨by rfl, ?_⟩) (by assumption) ?_
      rotate_left
      · intro w hSw; (try dsimp only at hSw); go_simp <;> with_reducible rfl
      try simp only [Act.put, List.setIfInBounds_toArray, List.set_cons_zero, List.set_cons_succ]
      refine wpAnyH_done (by kernel_rfl) ?_ _
      go_upto_region 8 with (fail)
      obtain ⟨wz, hwz⟩ : ∃ W : World, W = (wq.alloc (.cells #[.int .i64 2, .int .i64 13, .int .i64 22] 3)).drew := ⟨_, rfl⟩
      have stz : wz.cell? ⟨ns, 0, none⟩ = some (.int .u32 (r.a.toNat : Int)) ∧ wz.cell? ⟨ns, 1, none⟩ = some (.int .u32 (r.b.toNat : Int)) ∧ wz.cell? ⟨ns, 2, none⟩ = some (.int .u32 (r.c.toNat : Int)) ∧ wz.cell? ⟨ns, 3, none⟩ = some (.int .u32 (r.d.toNat : Int)) ∧ wz.cell? ⟨ns, 4, none⟩ = some (.int .u32 (r.e.toNat : Int)) ∧ wz.cell? ⟨ns, 5, none⟩ = some (.int .u32 (r.f.toNat : Int)) ∧ wz.cell? ⟨ns, 6, none⟩ = some (.int .u32 (r.g.toNat : Int)) ∧ wz.cell? ⟨ns, 7, none⟩ = some (.int .u32 (r.h.toNat : Int)) ∧ wz.cell? ⟨nk, t, none⟩ = some (.int .u32 (kk.toNat : Int)) ∧ SS wz := by rw [hwz]; assumption
      rw [← hwz]
      clear hwz st hHeld
      have hE := kE.out wz stz
      have fz : ∀ i, wz.frozen? ⟨ns, i, none⟩ = false := fun i => frozen_blk ((kSS.out wz stz.2.2.2.2.2.2.2.2.2).2.2.2.1)
      obtain ⟨v0, v1, v2, v3, v4, v5, v6, v7, -, -⟩ := stz
      have eN : wz.setCells ns 0 (rowW (⟨Z0, r.a, r.b, r.c, Z4, r.e, r.f, r.g⟩ : H8).l).toList = ((((((((wz.setCell ⟨ns, 0, none⟩ (.int .u32 (Z0.toNat : Int))).setCell ⟨ns, 1, none⟩ (.int .u32 (r.a.toNat : Int))).setCell ⟨ns, 2, none⟩ (.int .u32 (r.b.toNat : Int))).setCell ⟨ns, 3, none⟩ (.int .u32 (r.c.toNat : Int))).setCell ⟨ns, 4, none⟩ (.int .u32 (Z4.toNat : Int))).setCell ⟨ns, 5, none⟩ (.int .u32 (r.e.toNat : Int))).setCell ⟨ns, 6, none⟩ (.int .u32 (r.f.toNat : Int))).setCell ⟨ns, 7, none⟩ (.int .u32 (r.g.toNat : Int))) := rfl
      rw [eN] at hE
      clear eN
      replace hE := hid hE
      go_wp2_with (fail)
      exact ⟨⟨t + 1, by omega, by go_num, hE.out⟩, by simp [RowKit.intOf]; omega⟩
    · obtain rfl : t = 64 := by omega
      obtain ⟨r, hr⟩ : ∃ r, run8 s WS 64 = r := ⟨_, rfl⟩
      rw [hr] at gr
      have hres : turn8 s bl = plus8 r s 8 := by unfold turn8; rw [hWS.out, hr]
      replace hres := hid hres
      clear hr gk
      go_wp2_with (fail)
      go_loopw [89] (fun iv wr => ∃ i : Nat, i ≤ 8 ∧ iv = .int .i64 i ∧ wr.heap[n₀]? = some (.cells (rowW s.l) 110 (0, 0)) ∧ wr.heap[n₀ + 1]? = some (.cells #[.int .u32 0, .int .u32 0, .int .u32 0, .int .u32 0, .int .u32 0, .int .u32 0, .int .u32 0, .int .u32 0] 110 (0, 0)) ∧ wr.heap[ns]? = some (.cells (rowW (plus8 r s i).l) 110 (0, 0)) ∧ Below n₀ w wr) (fun iv _ => 8 - (RowKit.intOf iv).toNat)
      case atStart => exact ⟨0, Nat.zero_le _, rfl, g0, g1, gr, hB⟩
      case round =>
        obtain ⟨i, hi, rfl, q0, q1, qr, qB⟩ := hrel
        clear g0 g1 gr hB
        by_cases hi8 : i < 8
        · have hiI : (i : Int) < 8 := by omega
          obtain ⟨x, y, hp1, hp2, hp3⟩ := plus8_step r s i hi8
          have cx : wr.cell? ⟨ns, i, none⟩ = some (.int .u32 (x.toNat : Int)) := cell_blk qr (rowW_at hp1)
          have cy : wr.cell? ⟨n₀, i, none⟩ = some (.int .u32 (y.toNat : Int)) := cell_blk q0 (rowW_at hp2)
          have fx := frozen_blk qr (i := i)
          have qn := setCell_blk (i := i) (x := .int .u32 ((x + y).toNat : Int)) qr
          rw [rowW_set] at qn
          have hadd := addWr x y
          replace hp3 := hid hp3
          clear hp1 hp2
          go_upto_region 13 with (fail)
          refine wp_region_any (by kernel_rfl) ?_
          try (change wpAny _ _ _ _ _ _ _ (World.drew _))
          refine wpAny_take (i := 0) (oi := ⟨some 92, _, _, _, _, _⟩) (v := ?_) rfl (by kernel_rfl) (by kernel_rfl) (by kernel_rfl) (fun _ _ _ h => h) (Or.inl ⟨by rfl, ?_⟩) ?_
          rotate_left
          · intro w; go_simp <;> with_reducible rfl
          simp only [Act.put, List.setIfInBounds_toArray, List.set_cons_zero, List.set_cons_succ]
          refine wpAny_take (i := 1) (oi := ⟨some 93, _, _, _, _, _⟩) (v := ?_) rfl (by kernel_rfl) (by kernel_rfl) (by kernel_rfl) (fun _ _ _ h => h) (Or.inl ⟨by rfl, ?_⟩) ?_
          rotate_left
          · intro w; go_simp <;> with_reducible rfl
          simp only [Act.put, List.setIfInBounds_toArray, List.set_cons_zero, List.set_cons_succ]
          refine wpAny_take (i := 3) (oi := ⟨some 95, _, _, _, _, _⟩) (v := ?_) rfl (by kernel_rfl) (by kernel_rfl) (by kernel_rfl) (fun _ _ _ h => h) (Or.inl ⟨by rfl, ?_⟩) ?_
          rotate_left
          · intro w; go_simp <;> with_reducible rfl
          simp only [Act.put, List.setIfInBounds_toArray, List.set_cons_zero, List.set_cons_succ]
          refine wpAny_take (i := 4) (oi := ⟨some 96, _, _, _, _, _⟩) (v := ?_) rfl (by kernel_rfl) (by kernel_rfl) (by kernel_rfl) (fun _ _ _ h => h) (Or.inl ⟨by rfl, ?_⟩) ?_
          rotate_left
          · intro w; go_simp <;> with_reducible rfl
          simp only [Act.put, List.setIfInBounds_toArray, List.set_cons_zero, List.set_cons_succ]
          refine wpAny_ready (rs := [2, 5]) (by kernel_rfl) (by simp) ?_
          refine AllReady.cons rfl (fun K hK => ?_) ?_
          · go_simp
            first | refine hK _ _ ?_ | refine ⟨trivial, hK _ _ ?_⟩ | refine ⟨fun _ _ => trivial, hK _ _ ?_⟩
            clear hK K
            refine wpAny_ready (rs := [5]) (by kernel_rfl) (by simp) ?_
            refine AllReady.cons rfl (fun K hK => ?_) AllReady.nil
            go_simp
            first | refine hK _ _ ?_ | refine ⟨trivial, hK _ _ ?_⟩ | refine ⟨fun _ _ => trivial, hK _ _ ?_⟩
            clear hK K
            refine wpAny_take (i := 6) (oi := ⟨some 98, _, _, _, _, _⟩) (v := ?_) rfl (by kernel_rfl) (by kernel_rfl) (by kernel_rfl) (fun _ _ _ h => h) (Or.inl ⟨by rfl, ?_⟩) ?_
            rotate_left
            · intro w; go_simp <;> with_reducible rfl
            simp only [Act.put, List.setIfInBounds_toArray, List.set_cons_zero, List.set_cons_succ]
            refine wpAny_take (i := 7) (oi := ⟨some 99, _, _, _, _, _⟩) (v := ?_) rfl (by kernel_rfl) (by kernel_rfl) (by kernel_rfl) (fun _ _ _ h => h) (Or.inl ⟨by rfl, ?_⟩) ?_
            rotate_left
            · intro w; go_simp <;> with_reducible rfl
            simp only [Act.put, List.setIfInBounds_toArray, List.set_cons_zero, List.set_cons_succ]
            refine wpAny_ready (rs := [8]) (by kernel_rfl) (by simp) ?_
            refine AllReady.cons rfl (fun K hK => ?_) AllReady.nil
            go_simp
            first | refine hK _ _ ?_ | refine ⟨trivial, hK _ _ ?_⟩ | refine ⟨fun _ _ => trivial, hK _ _ ?_⟩
            clear hK K
            refine wpAny_done (by kernel_rfl) ?_ _
            go_wp2_with (fail)
            first
            | exact ⟨⟨i + 1, by omega, by go_num, (setCell_off (i := i) (x := .int .u32 ((x + y).toNat : Int)) (show n₀ ≠ ns by omega)).trans q0, (setCell_off (i := i) (x := .int .u32 ((x + y).toNat : Int)) (show n₀ + 1 ≠ ns by omega)).trans q1, by rw [hp3.out]; exact qn, (qB.drewN 1).setCell (p := ⟨ns, i, none⟩) (show n₀ ≤ ns by omega) _⟩, by simp [RowKit.intOf]; omega⟩
            | (refine ⟨?_, ?_⟩
               · (repeat apply Exists.intro)
                 refine ⟨?_, rfl⟩
                 exact ⟨i + 1, by omega, by go_num, (setCell_off (i := i) (x := .int .u32 ((x + y).toNat : Int)) (show n₀ ≠ ns by omega)).trans q0, (setCell_off (i := i) (x := .int .u32 ((x + y).toNat : Int)) (show n₀ + 1 ≠ ns by omega)).trans q1, by rw [hp3.out]; exact qn, (qB.drewN 1).setCell (p := ⟨ns, i, none⟩) (show n₀ ≤ ns by omega) _⟩
               · simp [RowKit.intOf]; omega)
          refine AllReady.cons rfl (fun K hK => ?_) AllReady.nil
          go_simp
          first | refine hK _ _ ?_ | refine ⟨trivial, hK _ _ ?_⟩ | refine ⟨fun _ _ => trivial, hK _ _ ?_⟩
          clear hK K
          refine wpAny_ready (rs := [2]) (by kernel_rfl) (by simp) ?_
          refine AllReady.cons rfl (fun K hK => ?_) AllReady.nil
          go_simp
          first | refine hK _ _ ?_ | refine ⟨trivial, hK _ _ ?_⟩ | refine ⟨fun _ _ => trivial, hK _ _ ?_⟩
          clear hK K
          refine wpAny_take (i := 6) (oi := ⟨some 98, _, _, _, _, _⟩) (v := ?_) rfl (by kernel_rfl) (by kernel_rfl) (by kernel_rfl) (fun _ _ _ h => h) (Or.inl ⟨by rfl, ?_⟩) ?_
          rotate_left
          · intro w; go_simp <;> with_reducible rfl
          simp only [Act.put, List.setIfInBounds_toArray, List.set_cons_zero, List.set_cons_succ]
          refine wpAny_take (i := 7) (oi := ⟨some 99, _, _, _, _, _⟩) (v := ?_) rfl (by kernel_rfl) (by kernel_rfl) (by kernel_rfl) (fun _ _ _ h => h) (Or.inl ⟨by rfl, ?_⟩) ?_
          rotate_left
          · intro w; go_simp <;> with_reducible rfl
          simp only [Act.put, List.setIfInBounds_toArray, List.set_cons_zero, List.set_cons_succ]
          refine wpAny_ready (rs := [8]) (by kernel_rfl) (by simp) ?_
          refine AllReady.cons rfl (fun K hK => ?_) AllReady.nil
          go_simp
          first | refine hK _ _ ?_ | refine ⟨trivial, hK _ _ ?_⟩ | refine ⟨fun _ _ => trivial, hK _ _ ?_⟩
          clear hK K
          refine wpAny_done (by kernel_rfl) ?_ _
          go_wp2_with (fail)
          first
          | exact ⟨⟨i + 1, by omega, by go_num, (setCell_off (i := i) (x := .int .u32 ((x + y).toNat : Int)) (show n₀ ≠ ns by omega)).trans q0, (setCell_off (i := i) (x := .int .u32 ((x + y).toNat : Int)) (show n₀ + 1 ≠ ns by omega)).trans q1, by rw [hp3.out]; exact qn, (qB.drewN 1).setCell (p := ⟨ns, i, none⟩) (show n₀ ≤ ns by omega) _⟩, by simp [RowKit.intOf]; omega⟩
          | (refine ⟨?_, ?_⟩
             · (repeat apply Exists.intro)
               refine ⟨?_, rfl⟩
               exact ⟨i + 1, by omega, by go_num, (setCell_off (i := i) (x := .int .u32 ((x + y).toNat : Int)) (show n₀ ≠ ns by omega)).trans q0, (setCell_off (i := i) (x := .int .u32 ((x + y).toNat : Int)) (show n₀ + 1 ≠ ns by omega)).trans q1, by rw [hp3.out]; exact qn, (qB.drewN 1).setCell (p := ⟨ns, i, none⟩) (show n₀ ≤ ns by omega) _⟩
             · simp [RowKit.intOf]; omega)
        · obtain rfl : i = 8 := by omega
          obtain ⟨o, ho⟩ : ∃ o, plus8 r s 8 = o := ⟨_, rfl⟩
          rw [ho] at qr hres
          have u1 := (Upd.refl q1).setCells (rowW o.l).toList (by rw [Array.length_toList, rowW_size]; rfl)
          have eN : wr.setCells (n₀ + 1) 0 (rowW o.l).toList = ((((((((wr.setCell ⟨n₀ + 1, 0, none⟩ (.int .u32 (o.a.toNat : Int))).setCell ⟨n₀ + 1, 1, none⟩ (.int .u32 (o.b.toNat : Int))).setCell ⟨n₀ + 1, 2, none⟩ (.int .u32 (o.c.toNat : Int))).setCell ⟨n₀ + 1, 3, none⟩ (.int .u32 (o.d.toNat : Int))).setCell ⟨n₀ + 1, 4, none⟩ (.int .u32 (o.e.toNat : Int))).setCell ⟨n₀ + 1, 5, none⟩ (.int .u32 (o.f.toNat : Int))).setCell ⟨n₀ + 1, 6, none⟩ (.int .u32 (o.g.toNat : Int))).setCell ⟨n₀ + 1, 7, none⟩ (.int .u32 (o.h.toNat : Int))) := rfl
          rw [eN] at u1
          have B9 := u1.below qB (by omega)
          have u2 : ((((((((wr.setCell ⟨n₀ + 1, 0, none⟩ (.int .u32 (o.a.toNat : Int))).setCell ⟨n₀ + 1, 1, none⟩ (.int .u32 (o.b.toNat : Int))).setCell ⟨n₀ + 1, 2, none⟩ (.int .u32 (o.c.toNat : Int))).setCell ⟨n₀ + 1, 3, none⟩ (.int .u32 (o.d.toNat : Int))).setCell ⟨n₀ + 1, 4, none⟩ (.int .u32 (o.e.toNat : Int))).setCell ⟨n₀ + 1, 5, none⟩ (.int .u32 (o.f.toNat : Int))).setCell ⟨n₀ + 1, 6, none⟩ (.int .u32 (o.g.toNat : Int))).setCell ⟨n₀ + 1, 7, none⟩ (.int .u32 (o.h.toNat : Int))).heap[n₀ + 1]? = some (.cells (rowW o.l) 110 (0, 0)) := by have h9 := u1.here; rw [Array.toArray_toList] at h9; exact h9
          have d0 : wr.cell? ⟨ns, 0, none⟩ = some (.int .u32 (o.a.toNat : Int)) := cell_blk (i := 0) qr rfl
          have d1 : wr.cell? ⟨ns, 1, none⟩ = some (.int .u32 (o.b.toNat : Int)) := cell_blk (i := 1) qr rfl
          have d2 : wr.cell? ⟨ns, 2, none⟩ = some (.int .u32 (o.c.toNat : Int)) := cell_blk (i := 2) qr rfl
          have d3 : wr.cell? ⟨ns, 3, none⟩ = some (.int .u32 (o.d.toNat : Int)) := cell_blk (i := 3) qr rfl
          have d4 : wr.cell? ⟨ns, 4, none⟩ = some (.int .u32 (o.e.toNat : Int)) := cell_blk (i := 4) qr rfl
          have d5 : wr.cell? ⟨ns, 5, none⟩ = some (.int .u32 (o.f.toNat : Int)) := cell_blk (i := 5) qr rfl
          have d6 : wr.cell? ⟨ns, 6, none⟩ = some (.int .u32 (o.g.toNat : Int)) := cell_blk (i := 6) qr rfl
          have d7 : wr.cell? ⟨ns, 7, none⟩ = some (.int .u32 (o.h.toNat : Int)) := cell_blk (i := 7) qr rfl
          have e0 : wr.cell? ⟨n₀ + 1, 0, none⟩ = some (.int .u32 0) := cell_blk (i := 0) q1 rfl
          have e1 : wr.cell? ⟨n₀ + 1, 1, none⟩ = some (.int .u32 0) := cell_blk (i := 1) q1 rfl
          have e2 : wr.cell? ⟨n₀ + 1, 2, none⟩ = some (.int .u32 0) := cell_blk (i := 2) q1 rfl
          have e3 : wr.cell? ⟨n₀ + 1, 3, none⟩ = some (.int .u32 0) := cell_blk (i := 3) q1 rfl
          have e4 : wr.cell? ⟨n₀ + 1, 4, none⟩ = some (.int .u32 0) := cell_blk (i := 4) q1 rfl
          have e5 : wr.cell? ⟨n₀ + 1, 5, none⟩ = some (.int .u32 0) := cell_blk (i := 5) q1 rfl
          have e6 : wr.cell? ⟨n₀ + 1, 6, none⟩ = some (.int .u32 0) := cell_blk (i := 6) q1 rfl
          have e7 : wr.cell? ⟨n₀ + 1, 7, none⟩ = some (.int .u32 0) := cell_blk (i := 7) q1 rfl
          have fz : ∀ k, wr.frozen? ⟨n₀ + 1, k, none⟩ = false := fun k => frozen_blk q1
          clear u1 eN ho
          go_wp2_with (fail)
          exact outRow (ty := 110) rfl u2 rfl rfl (by kernel_rfl) (by rw [rowW_size]; kernel_rfl) ⟨by rw [hres.out], hn₀ ▸ B9⟩
end Go.Proofs.Ytomgjapjeckokaa
