/- SHA-256: the walk of schedule (printed by gen_ixd.py). -/
import Derived.Test.YtomgjapjeckokaaIxC
import Derived.Deep.RegionHeld3
import Derived.Deep.DeepCutAuto
namespace Go.Proofs.Ytomgjapjeckokaa
open Go.RowKit Go.Shelf Go.Lib

/-- a chunk's word, k bytes of it -/
def wordK (bl : List UInt8) (t k : Nat) : W32 := ((bl.drop (4 * t)).take k).foldl (fun a c => a <<< 8 ||| BitVec.ofNat 32 c.toNat) 0
theorem wordK_succ {bl : List UInt8} {t k : Nat} {c : UInt8} (h : bl[4 * t + k]? = some c) : wordK bl t (k + 1) = wordK bl t k <<< 8 ||| BitVec.ofNat 32 c.toNat := by
  unfold wordK
  rw [List.take_add_one, List.getElem?_drop, h]
  simp
def nextW (l : List W32) (t : Nat) : W32 :=
  (turnW (l.getD (t - 2) 0) [17, 19] ^^^ l.getD (t - 2) 0 >>> 10) + l.getD (t - 7) 0 + (turnW (l.getD (t - 15) 0) [7, 18] ^^^ l.getD (t - 15) 0 >>> 3) + l.getD (t - 16) 0
def schedW (bl : List UInt8) : Nat → List W32
  | 0 => List.replicate 64 0
  | t + 1 => (schedW bl t).set t (if t < 16 then wordK bl t 4 else nextW (schedW bl t) t)
theorem schedW_len (bl : List UInt8) : ∀ t, (schedW bl t).length = 64
  | 0 => by simp [schedW]
  | t + 1 => by rw [schedW, List.length_set, schedW_len]
theorem schedW_zero (bl : List UInt8) : ∀ t i, t ≤ i → i < 64 → (schedW bl t)[i]? = some 0
  | 0, i, _, h => by rw [schedW, List.getElem?_replicate, if_pos h]
  | t + 1, i, h1, h2 => by rw [schedW, List.getElem?_set_ne (by omega)]; exact schedW_zero bl t i (by omega) h2
theorem addWr (a b : W32) : IntKind.u32.wrap ((a.toNat : Int) + (b.toNat : Int)) = ((a + b).toNat : Int) := by
  rw [← addW]; simp [IntKind.wrap, IntKind.bits, IntKind.signed]
theorem setCell_val {X : World} {b i : Nat} {v u : Value} (h : (X.setCell ⟨b, i, none⟩ v).cell? ⟨b, i, none⟩ = some u) : u = v := by
  cases hx : X.cell? ⟨b, i, none⟩ with
  | some u0 => rw [World.cell?_setCell_same _ _ _ hx] at h; exact (Option.some.inj h).symm
  | none =>
    exfalso
    unfold World.cell? at h hx
    simp only [World.setCell] at h
    rw [Array.getElem?_modify, if_pos rfl] at h
    cases hb : X.heap[b]? with
    | none => rw [hb] at h; simp at h
    | some o => cases o <;> simp_all
def encU (b : UInt8) : List Value := [.int .u8 b.toNat]
theorem ofU8 (c : UInt8) : ((BitVec.ofNat 32 c.toNat).toNat : Int) = (c.toNat : Int) := by
  rw [BitVec.toNat_ofNat]; have := c.toNat_lt; omega
theorem orU (x : W32) (c : UInt8) : bits .or .u32 ((x.toNat : Int) * 256 % 4294967296) ((c.toNat : Int) % 4294967296) = (((x <<< 8 ||| BitVec.ofNat 32 c.toNat)).toNat : Int) := by
  rw [show (c.toNat : Int) % 4294967296 = (c.toNat : Int) by have := c.toNat_lt; omega, ← ofU8, show (256 : Int) = ((2 ^ 8 : Nat) : Int) from rfl, shlW, bits_orW]
theorem slN2 (W : World) (a b : Nat) (t : TypeId) : Sl (W.alloc (.cells #[.int .i64 a, .int .i64 b] t)) 1 encN (.slice (some ⟨W.heap.size, 0, none⟩) 2 2) [a, b] := by
  refine Sl.mk (l := [a, b]) (cap := 2) (by simp) (by decide) fun i x h => ?_
  have hb := World.alloc_heap_new W (.cells #[.int .i64 (a : Int), .int .i64 (b : Int)] t)
  match i, h with
  | 0, h => obtain rfl := Option.some.inj h; exact fun j v hj => by match j, hj with | 0, hj => obtain rfl := Option.some.inj hj; exact cell_blk hb rfl
  | 1, h => obtain rfl := Option.some.inj h; exact fun j v hj => by match j, hj with | 0, hj => obtain rfl := Option.some.inj hj; exact cell_blk hb rfl

theorem slC {W : World} {b a c : Nat} (h0 : W.cell? ⟨b, 0, none⟩ = some (.int .i64 a)) (h1 : W.cell? ⟨b, 1, none⟩ = some (.int .i64 c)) : Sl W 1 encN (.slice (some ⟨b, 0, none⟩) 2 2) [a, c] := by
  refine Sl.mk (l := [a, c]) (cap := 2) (by simp) (by decide) fun i x h => ?_
  match i, h with
  | 0, h => obtain rfl := Option.some.inj h; exact fun j v hj => by match j, hj with | 0, hj => obtain rfl := Option.some.inj hj; exact h0
  | 1, h => obtain rfl := Option.some.inj h; exact fun j v hj => by match j, hj with | 0, hj => obtain rfl := Option.some.inj hj; exact h1
theorem sl17a (W : World) (t : TypeId) : Sl (W.alloc (.cells #[.int .i64 17, .int .i64 19] t)).drew 1 encN (.slice (some ⟨W.heap.size, 0, none⟩) 2 2) [17, 19] := by
  have h : (W.alloc (.cells #[.int .i64 17, .int .i64 19] t)).heap[W.heap.size]? = some (.cells #[.int .i64 17, .int .i64 19] t (0, 0)) := World.alloc_heap_new W _
  exact slC (cell_blk (show (W.alloc (.cells #[.int .i64 17, .int .i64 19] t)).drew.heap[W.heap.size]? = _ from h) rfl) (cell_blk (show (W.alloc (.cells #[.int .i64 17, .int .i64 19] t)).drew.heap[W.heap.size]? = _ from h) rfl)
theorem sl17b (W : World) (t : TypeId) : Sl ((W.alloc (.cells #[.int .i64 17, .int .i64 19] t)).alloc (.cells #[.int .i64 7, .int .i64 18] t)).drew 1 encN (.slice (some ⟨W.heap.size, 0, none⟩) 2 2) [17, 19] := by
  have h : ((W.alloc (.cells #[.int .i64 17, .int .i64 19] t)).alloc (.cells #[.int .i64 7, .int .i64 18] t)).heap[W.heap.size]? = some (.cells #[.int .i64 17, .int .i64 19] t (0, 0)) := (Kept.alloc 0 _ _).same _ _ (World.alloc_heap_new W _) (.inl rfl)
  exact slC (cell_blk (show ((W.alloc (.cells #[.int .i64 17, .int .i64 19] t)).alloc (.cells #[.int .i64 7, .int .i64 18] t)).drew.heap[W.heap.size]? = _ from h) rfl) (cell_blk (show ((W.alloc (.cells #[.int .i64 17, .int .i64 19] t)).alloc (.cells #[.int .i64 7, .int .i64 18] t)).drew.heap[W.heap.size]? = _ from h) rfl)
theorem sl17c (W : World) (t : TypeId) : Sl ((W.alloc (.cells #[.int .i64 7, .int .i64 18] t)).alloc (.cells #[.int .i64 17, .int .i64 19] t)).drew 1 encN (.slice (some ⟨W.heap.size + 1, 0, none⟩) 2 2) [17, 19] := by
  have h : ((W.alloc (.cells #[.int .i64 7, .int .i64 18] t)).alloc (.cells #[.int .i64 17, .int .i64 19] t)).heap[W.heap.size + 1]? = some (.cells #[.int .i64 17, .int .i64 19] t (0, 0)) := by rw [← World.size_alloc W (.cells #[.int .i64 7, .int .i64 18] t)]; exact World.alloc_heap_new _ _
  exact slC (cell_blk (show ((W.alloc (.cells #[.int .i64 7, .int .i64 18] t)).alloc (.cells #[.int .i64 17, .int .i64 19] t)).drew.heap[W.heap.size + 1]? = _ from h) rfl) (cell_blk (show ((W.alloc (.cells #[.int .i64 7, .int .i64 18] t)).alloc (.cells #[.int .i64 17, .int .i64 19] t)).drew.heap[W.heap.size + 1]? = _ from h) rfl)
theorem sl7b (W : World) (t : TypeId) : Sl ((W.alloc (.cells #[.int .i64 17, .int .i64 19] t)).alloc (.cells #[.int .i64 7, .int .i64 18] t)).drew 1 encN (.slice (some ⟨W.heap.size + 1, 0, none⟩) 2 2) [7, 18] := by
  have h : ((W.alloc (.cells #[.int .i64 17, .int .i64 19] t)).alloc (.cells #[.int .i64 7, .int .i64 18] t)).heap[W.heap.size + 1]? = some (.cells #[.int .i64 7, .int .i64 18] t (0, 0)) := by rw [← World.size_alloc W (.cells #[.int .i64 17, .int .i64 19] t)]; exact World.alloc_heap_new _ _
  exact slC (cell_blk (show ((W.alloc (.cells #[.int .i64 17, .int .i64 19] t)).alloc (.cells #[.int .i64 7, .int .i64 18] t)).drew.heap[W.heap.size + 1]? = _ from h) rfl) (cell_blk (show ((W.alloc (.cells #[.int .i64 17, .int .i64 19] t)).alloc (.cells #[.int .i64 7, .int .i64 18] t)).drew.heap[W.heap.size + 1]? = _ from h) rfl)
theorem sl7c (W : World) (t : TypeId) : Sl ((W.alloc (.cells #[.int .i64 7, .int .i64 18] t)).alloc (.cells #[.int .i64 17, .int .i64 19] t)).drew 1 encN (.slice (some ⟨W.heap.size, 0, none⟩) 2 2) [7, 18] := by
  have h : ((W.alloc (.cells #[.int .i64 7, .int .i64 18] t)).alloc (.cells #[.int .i64 17, .int .i64 19] t)).heap[W.heap.size]? = some (.cells #[.int .i64 7, .int .i64 18] t (0, 0)) := (Kept.alloc 0 _ _).same _ _ (World.alloc_heap_new W _) (.inl rfl)
  exact slC (cell_blk (show ((W.alloc (.cells #[.int .i64 7, .int .i64 18] t)).alloc (.cells #[.int .i64 17, .int .i64 19] t)).drew.heap[W.heap.size]? = _ from h) rfl) (cell_blk (show ((W.alloc (.cells #[.int .i64 7, .int .i64 18] t)).alloc (.cells #[.int .i64 17, .int .i64 19] t)).drew.heap[W.heap.size]? = _ from h) rfl)
theorem set_at_self {α : Type} {l : List α} {i : Nat} {x : α} (h : l[i]? = some x) : l.set i x = l := by
  obtain ⟨h1, h2⟩ := List.getElem?_eq_some_iff.1 h
  rw [← h2, List.set_getElem_self]

set_option maxRecDepth 100000 in
set_option maxHeartbeats 2000000 in
theorem schedule_any (bl : List UInt8) (v : Value) (w : World) (hl : bl.length = 64) (hs : Sl w 1 encU v bl) :
    Calls Try.prog 80 #[v] w fun e w' => e = .returned (.agg (rowW (schedW bl 64))) ∧ Below w.heap.size w w' := by
  obtain ⟨vb, vo, cap, rfl, hm1, hm2, hc⟩ := hs.open (by intro h; rw [h] at hl; simp at hl)
  obtain ⟨n₀, hn₀⟩ : ∃ n, w.heap.size = n := ⟨_, rfl⟩
  have hvb : vb < n₀ := by
    obtain ⟨c, hc0⟩ : ∃ c, bl[0]? = some c := ⟨_, List.getElem?_eq_getElem (by omega)⟩
    have h0 := rangeAt_one (hc 0 c hc0)
    rw [← hn₀]; exact World.block_lt_of_cell? w _ h0
  rw [hl] at hm1 hs ⊢
  unfold maxLen at hm2
  go_enter Try.func80, Try.ntmps80
  go_upto_region 2 with (fail)
  obtain ⟨W1, hW1⟩ : ∃ W : World, W = (w.alloc (.cells #[.int .u32 0, .int .u32 0, .int .u32 0, .int .u32 0, .int .u32 0, .int .u32 0, .int .u32 0, .int .u32 0, .int .u32 0, .int .u32 0, .int .u32 0, .int .u32 0, .int .u32 0, .int .u32 0, .int .u32 0, .int .u32 0, .int .u32 0, .int .u32 0, .int .u32 0, .int .u32 0, .int .u32 0, .int .u32 0, .int .u32 0, .int .u32 0, .int .u32 0, .int .u32 0, .int .u32 0, .int .u32 0, .int .u32 0, .int .u32 0, .int .u32 0, .int .u32 0, .int .u32 0, .int .u32 0, .int .u32 0, .int .u32 0, .int .u32 0, .int .u32 0, .int .u32 0, .int .u32 0, .int .u32 0, .int .u32 0, .int .u32 0, .int .u32 0, .int .u32 0, .int .u32 0, .int .u32 0, .int .u32 0, .int .u32 0, .int .u32 0, .int .u32 0, .int .u32 0, .int .u32 0, .int .u32 0, .int .u32 0, .int .u32 0, .int .u32 0, .int .u32 0, .int .u32 0, .int .u32 0, .int .u32 0, .int .u32 0, .int .u32 0, .int .u32 0] 118)).alloc (.cells #[.int .u32 0, .int .u32 0, .int .u32 0, .int .u32 0, .int .u32 0, .int .u32 0, .int .u32 0, .int .u32 0, .int .u32 0, .int .u32 0, .int .u32 0, .int .u32 0, .int .u32 0, .int .u32 0, .int .u32 0, .int .u32 0, .int .u32 0, .int .u32 0, .int .u32 0, .int .u32 0, .int .u32 0, .int .u32 0, .int .u32 0, .int .u32 0, .int .u32 0, .int .u32 0, .int .u32 0, .int .u32 0, .int .u32 0, .int .u32 0, .int .u32 0, .int .u32 0, .int .u32 0, .int .u32 0, .int .u32 0, .int .u32 0, .int .u32 0, .int .u32 0, .int .u32 0, .int .u32 0, .int .u32 0, .int .u32 0, .int .u32 0, .int .u32 0, .int .u32 0, .int .u32 0, .int .u32 0, .int .u32 0, .int .u32 0, .int .u32 0, .int .u32 0, .int .u32 0, .int .u32 0, .int .u32 0, .int .u32 0, .int .u32 0, .int .u32 0, .int .u32 0, .int .u32 0, .int .u32 0, .int .u32 0, .int .u32 0, .int .u32 0, .int .u32 0] 118) := ⟨_, rfl⟩
  have hz : (w.alloc (.cells #[.int .u32 0, .int .u32 0, .int .u32 0, .int .u32 0, .int .u32 0, .int .u32 0, .int .u32 0, .int .u32 0, .int .u32 0, .int .u32 0, .int .u32 0, .int .u32 0, .int .u32 0, .int .u32 0, .int .u32 0, .int .u32 0, .int .u32 0, .int .u32 0, .int .u32 0, .int .u32 0, .int .u32 0, .int .u32 0, .int .u32 0, .int .u32 0, .int .u32 0, .int .u32 0, .int .u32 0, .int .u32 0, .int .u32 0, .int .u32 0, .int .u32 0, .int .u32 0, .int .u32 0, .int .u32 0, .int .u32 0, .int .u32 0, .int .u32 0, .int .u32 0, .int .u32 0, .int .u32 0, .int .u32 0, .int .u32 0, .int .u32 0, .int .u32 0, .int .u32 0, .int .u32 0, .int .u32 0, .int .u32 0, .int .u32 0, .int .u32 0, .int .u32 0, .int .u32 0, .int .u32 0, .int .u32 0, .int .u32 0, .int .u32 0, .int .u32 0, .int .u32 0, .int .u32 0, .int .u32 0, .int .u32 0, .int .u32 0, .int .u32 0, .int .u32 0] 118)).heap.size = n₀ + 1 := by rw [World.size_alloc, hn₀]
  have a0 : W1.heap[n₀]? = some (.cells (rowW (List.replicate 64 0)) 118 (0, 0)) := by
    rw [hW1, zero64_is]
    refine (Kept.alloc 0 _ _).same _ _ ?_ (.inl rfl)
    rw [← hn₀]; exact World.alloc_heap_new w _
  have a1 : W1.heap[n₀ + 1]? = some (.cells (rowW (schedW bl 0)) 118 (0, 0)) := by
    rw [hW1, ← hz, zero64_is]; exact World.alloc_heap_new _ _
  have B1 : Below n₀ w W1 := by rw [hW1, ← hn₀]; exact ((Below.refl _ w).alloc (Nat.le_refl _) _).alloc (by simp) _
  have s1 : Sl W1 1 encU (.slice (some ⟨vb, vo, none⟩) 64 cap) bl := by rw [hW1]; exact (Kept.alloc 0 _ _).sl ((Kept.alloc 0 _ _).sl hs)
  rw [← hW1]
  clear hW1 hz hs hc
  try simp only [hn₀]
  go_wp2_with (fail)
  go_loopw [7] (fun iv wr => ∃ t : Nat, t ≤ 64 ∧ iv = .int .i64 t ∧ wr.heap[n₀]? = some (.cells (rowW (List.replicate 64 0)) 118 (0, 0)) ∧ wr.heap[n₀ + 1]? = some (.cells (rowW (schedW bl t)) 118 (0, 0)) ∧ Sl wr 1 encU (.slice (some ⟨vb, vo, none⟩) 64 cap) bl ∧ Below n₀ w wr) (fun iv _ => 64 - (RowKit.intOf iv).toNat)
  case atStart => exact ⟨0, Nat.zero_le _, rfl, a0, a1, s1, B1⟩
  case round =>
    obtain ⟨t, ht, rfl, g0, g1, gs, hB⟩ := hrel
    clear a0 a1 s1 B1
    by_cases ht6 : t < 64
    · have htI : (t : Int) < 64 := by omega
      by_cases ht1 : t < 16
      · have ht1I : (t : Int) < 16 := by omega
        have hsc : schedW bl (t + 1) = (schedW bl t).set t (wordK bl t 4) := by rw [schedW, if_pos ht1]
        have h0w : (schedW bl t).set t (wordK bl t 0) = schedW bl t := by
          have h0 := schedW_zero bl t t (Nat.le_refl _) ht6
          obtain ⟨h1, h2⟩ := List.getElem?_eq_some_iff.1 h0
          rw [show wordK bl t 0 = 0 by simp [wordK], ← h2, List.set_getElem_self]
        have hw4 : IntKind.i64.wrap (4 * (t : Int)) = 4 * (t : Int) := by rw [IntKind.wrap_i64]; omega
        have hw5 : IntKind.i64.wrap (4 * (t : Int) + 4) = 4 * (t : Int) + 4 := by rw [IntKind.wrap_i64]; omega
        have hlen : 4 * t + 4 - 4 * t = 4 := by omega
        go_wp2_with (fail)
        go_loopw [57] (fun jv wr => ∃ k : Nat, k ≤ 4 ∧ jv = .int .i64 k ∧ wr.heap[n₀]? = some (.cells (rowW (List.replicate 64 0)) 118 (0, 0)) ∧ wr.heap[n₀ + 1]? = some (.cells (rowW ((schedW bl t).set t (wordK bl t k))) 118 (0, 0)) ∧ Sl wr 1 encU (.slice (some ⟨vb, vo, none⟩) 64 cap) bl ∧ Below n₀ w wr) (fun jv _ => 4 - (RowKit.intOf jv).toNat)
        case atStart => exact ⟨0, Nat.zero_le _, rfl, g0, by rw [h0w]; exact g1, gs, hB⟩
        case round =>
          obtain ⟨k, hk, rfl, q0, q1, qs, qB⟩ := hrel
          clear g0 g1 gs hB
          by_cases hk4 : k < 4
          · have hkI : (k : Int) < 4 := by omega
            obtain ⟨c, hcc⟩ : ∃ c, bl[4 * t + k]? = some c := ⟨_, List.getElem?_eq_getElem (by omega)⟩
            have hws := wordK_succ hcc
            obtain ⟨x, hx⟩ : ∃ x, wordK bl t k = x := ⟨_, rfl⟩
            obtain ⟨y, hy⟩ : ∃ y, wordK bl t (k + 1) = y := ⟨_, rfl⟩
            rw [hx, hy] at hws
            rw [hx] at q1
            have hor := orU x c
            rw [← hws] at hor
            obtain ⟨b9, o9, c9, he9, -, -, hc9⟩ := qs.open (by intro h; rw [h] at hl; simp at hl)
            simp only [Value.slice.injEq, Option.some.injEq, Addr.mk.injEq, and_true] at he9
            obtain ⟨⟨rfl, rfl⟩, -, rfl⟩ := he9
            have cb : wr.cell? ⟨vb, vo + 4 * t + k, none⟩ = some (.int .u8 c.toNat) := by
              have := rangeAt_one (hc9 _ c hcc)
              rwa [Nat.mul_one, ← Nat.add_assoc] at this
            have cx : wr.cell? ⟨n₀ + 1, t, none⟩ = some (.int .u32 (x.toNat : Int)) := cell_blk q1 (rowW_at (by rw [List.getElem?_set_self (by rw [schedW_len]; exact ht6)]))
            have fx := frozen_blk q1 (i := t)
            have q1' := setCell_blk (i := t) (x := .int .u32 (y.toNat : Int)) q1
            rw [rowW_set, List.set_set] at q1'
            have q0' := (setCell_off (b := n₀ + 1) (i := t) (x := .int .u32 (y.toNat : Int)) (show n₀ ≠ n₀ + 1 by omega)).trans q0
            have qB' := qB.setCell (p := ⟨n₀ + 1, t, none⟩) (show n₀ ≤ n₀ + 1 by omega) (.int .u32 (y.toNat : Int))
            have qs' : Sl (wr.setCell ⟨n₀ + 1, t, none⟩ (.int .u32 (y.toNat : Int))) 1 encU (.slice (some ⟨vb, vo, none⟩) 64 cap) bl := ((Upd.refl q1).set (i := t) (.int .u32 (y.toNat : Int))).sl (fun a h => by cases h; show vb ≠ n₀ + 1; omega) qs
            clear hc9 hcc hws q0 q1 qs qB hsc h0w
            replace hx := hid hx
            replace hy := hid hy
            go_wp2_with (fail)
            exact ⟨⟨k + 1, by omega, by go_num, q0', by rw [hy.out]; exact q1', qs', qB'⟩, by simp [RowKit.intOf]; omega⟩
          · obtain rfl : k = 4 := by omega
            go_wp2_with (fail)
            exact ⟨⟨t + 1, by omega, by go_num, q0, by rw [hsc]; exact q1, qs, qB⟩, by simp [RowKit.intOf]; omega⟩
      · have ht2 : 16 ≤ t := by omega
        have ht2I : (16 : Int) ≤ (t : Int) := by omega
        have hsc : schedW bl (t + 1) = (schedW bl t).set t (nextW (schedW bl t) t) := by rw [schedW, if_neg ht1]
        obtain ⟨l, hll⟩ : ∃ l, schedW bl t = l := ⟨_, rfl⟩
        have hl6 : l.length = 64 := by rw [← hll, schedW_len]
        rw [hll] at hsc g1
        obtain ⟨i2, hi2⟩ : ∃ i, t - 2 = i := ⟨_, rfl⟩
        obtain ⟨i7, hi7⟩ : ∃ i, t - 7 = i := ⟨_, rfl⟩
        obtain ⟨i15, hi15⟩ : ∃ i, t - 15 = i := ⟨_, rfl⟩
        obtain ⟨i16, hi16⟩ : ∃ i, t - 16 = i := ⟨_, rfl⟩
        obtain ⟨x2, hx2⟩ : ∃ x, l[i2]? = some x := ⟨_, List.getElem?_eq_getElem (by omega)⟩
        obtain ⟨x0, hx0⟩ : ∃ x, l[t]? = some x := ⟨_, List.getElem?_eq_getElem (by omega)⟩
        obtain ⟨x7, hx7⟩ : ∃ x, l[i7]? = some x := ⟨_, List.getElem?_eq_getElem (by omega)⟩
        obtain ⟨x15, hx15⟩ : ∃ x, l[i15]? = some x := ⟨_, List.getElem?_eq_getElem (by omega)⟩
        obtain ⟨x16, hx16⟩ : ∃ x, l[i16]? = some x := ⟨_, List.getElem?_eq_getElem (by omega)⟩
        obtain ⟨A, hA⟩ : ∃ x, turnW x2 [17, 19] = x := ⟨_, rfl⟩
        obtain ⟨B, hBB⟩ : ∃ x, turnW x15 [7, 18] = x := ⟨_, rfl⟩
        have hnx : nextW l t = (A ^^^ x2 >>> 10) + x7 + (B ^^^ x15 >>> 3) + x16 := by
          have gd : ∀ {i : Nat} {x : W32}, l[i]? = some x → l.getD i 0 = x := fun h => by rw [List.getD_eq_getElem?_getD, h]; rfl
          unfold nextW
          rw [hi2, hi7, hi15, hi16, gd hx2, gd hx7, gd hx15, gd hx16, hA, hBB]
        have w2 : IntKind.i64.wrap ((t : Int) - 2) = (i2 : Int) := by rw [IntKind.wrap_i64]; omega
        have w7 : IntKind.i64.wrap ((t : Int) - 7) = (i7 : Int) := by rw [IntKind.wrap_i64]; omega
        have w15 : IntKind.i64.wrap ((t : Int) - 15) = (i15 : Int) := by rw [IntKind.wrap_i64]; omega
        have w16 : IntKind.i64.wrap ((t : Int) - 16) = (i16 : Int) := by rw [IntKind.wrap_i64]; omega
        have p2 : (i2 : Int) < 64 := by omega
        have p7 : (i7 : Int) < 64 := by omega
        have p15 : (i15 : Int) < 64 := by omega
        have p16 : (i16 : Int) < 64 := by omega
        obtain ⟨C0, hC0⟩ : ∃ x : W32, x2 >>> 10 = x := ⟨_, rfl⟩
        obtain ⟨C1, hC1⟩ : ∃ x : W32, A ^^^ C0 = x := ⟨_, rfl⟩
        obtain ⟨C2, hC2⟩ : ∃ x : W32, C1 + x7 = x := ⟨_, rfl⟩
        obtain ⟨C3, hC3⟩ : ∃ x : W32, x15 >>> 3 = x := ⟨_, rfl⟩
        obtain ⟨C4, hC4⟩ : ∃ x : W32, B ^^^ C3 = x := ⟨_, rfl⟩
        obtain ⟨C5, hC5⟩ : ∃ x : W32, C2 + C4 = x := ⟨_, rfl⟩
        obtain ⟨C6, hC6⟩ : ∃ x : W32, C5 + x16 = x := ⟨_, rfl⟩
        have hy : nextW l t = C6 := by rw [hnx, hC0, hC1, hC2, hC3, hC4, hC5, hC6]
        have m0 : (x2.toNat : Int) / 1024 = (C0.toNat : Int) := by rw [← hC0]; exact shrW x2 10
        have m1 : bits .xor .u32 (A.toNat : Int) (C0.toNat : Int) = (C1.toNat : Int) := by rw [← hC1]; exact bits_xorW _ _
        have m2 : IntKind.u32.wrap ((C1.toNat : Int) + (x7.toNat : Int)) = (C2.toNat : Int) := by rw [← hC2]; exact addWr _ _
        have m3 : (x15.toNat : Int) / 8 = (C3.toNat : Int) := by rw [← hC3]; exact shrW x15 3
        have m4 : bits .xor .u32 (B.toNat : Int) (C3.toNat : Int) = (C4.toNat : Int) := by rw [← hC4]; exact bits_xorW _ _
        have m5 : IntKind.u32.wrap ((C2.toNat : Int) + (C4.toNat : Int)) = (C5.toNat : Int) := by rw [← hC5]; exact addWr _ _
        have m6 : IntKind.u32.wrap ((C5.toNat : Int) + (x16.toNat : Int)) = (C6.toNat : Int) := by rw [← hC6]; exact addWr _ _
        have cT : Hid (∀ (x : W32) (l : List Nat) (v : Value) (W : World), Sl W 1 encN v l → (l = [17, 19] ∨ l = [7, 18]) → Calls Try.prog 81 #[.int .u32 (x.toNat : Int), v] W fun e w' => e = .returned (.int .u32 ((turnW x l).toNat : Int)) ∧ w' = W) :=
          hid fun x l v W hv hh => turned_any x l v W (by rintro n hn; rcases hh with rfl | rfl <;> simp at hn <;> omega) hv
        have hlt : t < l.length := by omega
        obtain ⟨vAt, hvA⟩ : ∃ f : World → Value, ∀ W, f W = (W.cell? ⟨n₀ + 1, t, none⟩).getD undef := ⟨_, fun _ => rfl⟩
        obtain ⟨SS, hSS⟩ : ∃ SS : World → Prop, ∀ W, SS W ↔ (W.heap[n₀]? = some (.cells (rowW (List.replicate 64 0)) 118 (0, 0)) ∧ (∃ z, W.heap[n₀ + 1]? = some (.cells (rowW (l.set t z)) 118 (0, 0))) ∧ Sl W 1 encU (.slice (some ⟨vb, vo, none⟩) 64 cap) bl ∧ Below n₀ w W) := ⟨_, fun _ => Iff.rfl⟩
        have atC : ∀ W, SS W → W.cell? ⟨n₀ + 1, i2, none⟩ = some (.int .u32 (x2.toNat : Int)) ∧ W.cell? ⟨n₀ + 1, i7, none⟩ = some (.int .u32 (x7.toNat : Int)) ∧ W.cell? ⟨n₀ + 1, i15, none⟩ = some (.int .u32 (x15.toNat : Int)) ∧ W.cell? ⟨n₀ + 1, i16, none⟩ = some (.int .u32 (x16.toNat : Int)) ∧ W.cell? ⟨n₀ + 1, t, none⟩ = some (vAt W) ∧ W.frozen? ⟨n₀ + 1, t, none⟩ = false ∧ SS W := by
          intro W h
          obtain ⟨h1, ⟨z, h2⟩, h3, h4⟩ := (hSS W).1 h
          have gt : ∀ {i : Nat} {x : W32}, l[i]? = some x → i ≠ t → W.cell? ⟨n₀ + 1, i, none⟩ = some (.int .u32 (x.toNat : Int)) := fun hx hi => cell_blk h2 (rowW_at (by rw [List.getElem?_set_ne (Ne.symm hi)]; exact hx))
          refine ⟨gt hx2 (by omega), gt hx7 (by omega), gt hx15 (by omega), gt hx16 (by omega), ?_, frozen_blk h2, h⟩
          rw [hvA, cell_blk h2 (rowW_at (List.getElem?_set_self hlt))]; rfl
        have kS : Hid (∀ W W' : World, (W.cell? ⟨n₀ + 1, i2, none⟩ = some (.int .u32 (x2.toNat : Int)) ∧ W.cell? ⟨n₀ + 1, i7, none⟩ = some (.int .u32 (x7.toNat : Int)) ∧ W.cell? ⟨n₀ + 1, i15, none⟩ = some (.int .u32 (x15.toNat : Int)) ∧ W.cell? ⟨n₀ + 1, i16, none⟩ = some (.int .u32 (x16.toNat : Int)) ∧ W.cell? ⟨n₀ + 1, t, none⟩ = some (vAt W) ∧ W.frozen? ⟨n₀ + 1, t, none⟩ = false ∧ SS W) → Below W.heap.size W W' → W'.cell? ⟨n₀ + 1, i2, none⟩ = some (.int .u32 (x2.toNat : Int)) ∧ W'.cell? ⟨n₀ + 1, i7, none⟩ = some (.int .u32 (x7.toNat : Int)) ∧ W'.cell? ⟨n₀ + 1, i15, none⟩ = some (.int .u32 (x15.toNat : Int)) ∧ W'.cell? ⟨n₀ + 1, i16, none⟩ = some (.int .u32 (x16.toNat : Int)) ∧ W'.cell? ⟨n₀ + 1, t, none⟩ = some (vAt W') ∧ W'.frozen? ⟨n₀ + 1, t, none⟩ = false ∧ SS W') := hid (by
          rintro W W' ⟨-, -, -, -, -, -, h⟩ hb
          have kk9 := Kept.of_below hb 0
          obtain ⟨h1, ⟨z, h2⟩, h3, h4⟩ := (hSS W).1 h
          exact atC _ ((hSS W').2 ⟨kk9.same _ _ h1 (.inl rfl), ⟨z, kk9.same _ _ h2 (.inl rfl)⟩, kk9.sl h3, h4.trans (hb.mono (by have := h4.size; omega))⟩))
        have st : Hid (wr.drew.cell? ⟨n₀ + 1, i2, none⟩ = some (.int .u32 (x2.toNat : Int)) ∧ wr.drew.cell? ⟨n₀ + 1, i7, none⟩ = some (.int .u32 (x7.toNat : Int)) ∧ wr.drew.cell? ⟨n₀ + 1, i15, none⟩ = some (.int .u32 (x15.toNat : Int)) ∧ wr.drew.cell? ⟨n₀ + 1, i16, none⟩ = some (.int .u32 (x16.toNat : Int)) ∧ wr.drew.cell? ⟨n₀ + 1, t, none⟩ = some (vAt wr.drew) ∧ wr.drew.frozen? ⟨n₀ + 1, t, none⟩ = false ∧ SS wr.drew) := hid (atC _ ((hSS _).2 ⟨g0, ⟨x0, by rw [set_at_self hx0]; exact g1⟩, (Kept.drewN 0 wr 1).sl gs, hB.drewN 1⟩))
        have kV : Hid (∀ W : World, (W.cell? ⟨n₀ + 1, i2, none⟩ = some (.int .u32 (x2.toNat : Int)) ∧ W.cell? ⟨n₀ + 1, i7, none⟩ = some (.int .u32 (x7.toNat : Int)) ∧ W.cell? ⟨n₀ + 1, i15, none⟩ = some (.int .u32 (x15.toNat : Int)) ∧ W.cell? ⟨n₀ + 1, i16, none⟩ = some (.int .u32 (x16.toNat : Int)) ∧ W.cell? ⟨n₀ + 1, t, none⟩ = some (vAt W) ∧ W.frozen? ⟨n₀ + 1, t, none⟩ = false ∧ SS W) → SS W) := hid (fun W h => h.2.2.2.2.2.2)
        have kW : Hid (∀ (W : World) (z : W32), (W.drew.cell? ⟨n₀ + 1, i2, none⟩ = some (.int .u32 (x2.toNat : Int)) ∧ W.drew.cell? ⟨n₀ + 1, i7, none⟩ = some (.int .u32 (x7.toNat : Int)) ∧ W.drew.cell? ⟨n₀ + 1, i15, none⟩ = some (.int .u32 (x15.toNat : Int)) ∧ W.drew.cell? ⟨n₀ + 1, i16, none⟩ = some (.int .u32 (x16.toNat : Int)) ∧ W.drew.cell? ⟨n₀ + 1, t, none⟩ = some (vAt W.drew) ∧ W.drew.frozen? ⟨n₀ + 1, t, none⟩ = false ∧ SS W.drew) → (W.setCell ⟨n₀ + 1, t, none⟩ (.int .u32 (z.toNat : Int))).drew.cell? ⟨n₀ + 1, i2, none⟩ = some (.int .u32 (x2.toNat : Int)) ∧ (W.setCell ⟨n₀ + 1, t, none⟩ (.int .u32 (z.toNat : Int))).drew.cell? ⟨n₀ + 1, i7, none⟩ = some (.int .u32 (x7.toNat : Int)) ∧ (W.setCell ⟨n₀ + 1, t, none⟩ (.int .u32 (z.toNat : Int))).drew.cell? ⟨n₀ + 1, i15, none⟩ = some (.int .u32 (x15.toNat : Int)) ∧ (W.setCell ⟨n₀ + 1, t, none⟩ (.int .u32 (z.toNat : Int))).drew.cell? ⟨n₀ + 1, i16, none⟩ = some (.int .u32 (x16.toNat : Int)) ∧ (W.setCell ⟨n₀ + 1, t, none⟩ (.int .u32 (z.toNat : Int))).drew.cell? ⟨n₀ + 1, t, none⟩ = some (vAt (W.setCell ⟨n₀ + 1, t, none⟩ (.int .u32 (z.toNat : Int))).drew) ∧ (W.setCell ⟨n₀ + 1, t, none⟩ (.int .u32 (z.toNat : Int))).drew.frozen? ⟨n₀ + 1, t, none⟩ = false ∧ SS (W.setCell ⟨n₀ + 1, t, none⟩ (.int .u32 (z.toNat : Int))).drew) := hid (by
          rintro W z ⟨-, -, -, -, -, -, h⟩
          obtain ⟨h1, ⟨z0, h2⟩, h3, h4⟩ := (hSS W.drew).1 h
          refine atC _ ((hSS _).2 ⟨(setCell_off (by omega)).trans h1, ⟨z, ?_⟩, ((Upd.refl h2).set (i := t) _).sl (fun a h => by cases h; show vb ≠ n₀ + 1; omega) h3, h4.setCell (show n₀ ≤ n₀ + 1 by omega) _⟩)
          have := setCell_blk (i := t) (x := .int .u32 (z.toNat : Int)) h2
          rwa [rowW_set, List.set_set] at this)
        have kF : Hid (∀ (W : World), SS (W.setCell ⟨n₀ + 1, t, none⟩ (.int .u32 (C6.toNat : Int))).drew → (W.setCell ⟨n₀ + 1, t, none⟩ (.int .u32 (C6.toNat : Int))).drew.heap[n₀]? = some (.cells (rowW (List.replicate 64 0)) 118 (0, 0)) ∧ (W.setCell ⟨n₀ + 1, t, none⟩ (.int .u32 (C6.toNat : Int))).drew.heap[n₀ + 1]? = some (.cells (rowW (schedW bl (t + 1))) 118 (0, 0)) ∧ Sl (W.setCell ⟨n₀ + 1, t, none⟩ (.int .u32 (C6.toNat : Int))).drew 1 encU (.slice (some ⟨vb, vo, none⟩) 64 cap) bl ∧ Below n₀ w (W.setCell ⟨n₀ + 1, t, none⟩ (.int .u32 (C6.toNat : Int))).drew) := hid (fun W h => by
          obtain ⟨h1, ⟨z, h2⟩, h3, h4⟩ := (hSS _).1 h
          have hv := setCell_val (X := W) (cell_blk (w := W.setCell ⟨n₀ + 1, t, none⟩ (.int .u32 (C6.toNat : Int))) (i := t) h2 (rowW_at (List.getElem?_set_self hlt)))
          have hz : z = C6 := by
            simp only [Value.int.injEq, true_and] at hv
            exact BitVec.eq_of_toNat_eq (by omega)
          subst hz
          exact ⟨h1, by rw [hsc, hy]; exact h2, h3, h4⟩)
        clear atC hSS hvA hx2 hx7 hx15 hx16 hnx hy hsc g0 g1 gs hB hi2 hi7 hi15 hi16 hC0 hC1 hC2 hC3 hC4 hC5 hC6 hlt hl6 hll hx0
        go_upto_region 6 with (fail)
        go_region_held3 (fun W => W.cell? ⟨n₀ + 1, i2, none⟩ = some (.int .u32 (x2.toNat : Int)) ∧ W.cell? ⟨n₀ + 1, i7, none⟩ = some (.int .u32 (x7.toNat : Int)) ∧ W.cell? ⟨n₀ + 1, i15, none⟩ = some (.int .u32 (x15.toNat : Int)) ∧ W.cell? ⟨n₀ + 1, i16, none⟩ = some (.int .u32 (x16.toNat : Int)) ∧ W.cell? ⟨n₀ + 1, t, none⟩ = some (vAt W) ∧ W.frozen? ⟨n₀ + 1, t, none⟩ = false ∧ SS W) (first | exact (Hid.out kW) _ _ (by assumption) | exact (Hid.out kS) _ _ (by assumption) (by first | exact (Below.refl _ _).alloc (Nat.le_refl _) _ | exact Below.refl _ _) | exact Hid.out st) (first
          | (go_at_call 81; refine (cT.out _ _ _ _ (by first | exact sl17a _ _ | exact sl17b _ _ | exact sl17c _ _ | exact sl7b _ _ | exact sl7c _ _) (by first | exact .inl rfl | exact .inr rfl)).mono ?_; rintro e w' ⟨rfl, rfl⟩; first | rw [hA] | rw [hBB]))
        all_goals
          go_wp2_with (fail)
          exact ⟨⟨t + 1, by omega, by go_num, kF.out _ (kV.out _ (by assumption))⟩, by simp [RowKit.intOf]; omega⟩
    · obtain rfl : t = 64 := by omega
      obtain ⟨L, hL⟩ : ∃ L, schedW bl 64 = L := ⟨_, rfl⟩
      have hL6 : L.length = 64 := by rw [← hL, schedW_len]
      rw [hL] at g1
      have g1' : wr.rangeAt (n₀ + 1) 0 (L.map vW) := range_blk g1
      have hi6 : (Try.prog.info? 118).map (·.size) = some (L.map vW).length := by rw [List.length_map, hL6]; kernel_rfl
      have hi7 : (Try.prog.info? 118).map (·.size) = some (rowW L).size := by rw [rowW_size, hL6]; kernel_rfl
      have ht7 : wr.there n₀ 0 (rowW L).size := there_blk g0 (by rw [rowW_size, rowW_size, hL6, List.length_replicate])
      have u1 := (Upd.refl g0).setCells (rowW L).toList (by rw [Array.length_toList, rowW_size, rowW_size, hL6, List.length_replicate])
      have B1 := u1.below hB (Nat.le_refl _)
      replace hL := hid hL
      go_upto_region 13 with (fail)
      refine wp_region_list ?_
      refine wpList_load_mid rfl 118 _ rfl (n₀ + 1) 0 rfl (L.map vW) _ g1' Try.underlying118 rfl hi6 ?_
      refine wpList_store_mid rfl 118 _ _ rfl n₀ 0 (rowW L) rfl rfl ht7 hi7 (one_rowW _) ?_
      obtain ⟨W9, hW9⟩ : ∃ W : World, W = wr.setCells n₀ 0 (rowW L).toList := ⟨_, rfl⟩
      rw [← hW9] at u1 B1 ⊢
      clear hW9
      refine wpList_nil ?_
      go_wp2_with (fail)
      have u2 : W9.heap[n₀]? = some (.cells (rowW (L)) 118 (0, 0)) := by have := u1.here; rwa [Array.toArray_toList] at this
      exact outRow (ty := 118) rfl u2 rfl rfl (by kernel_rfl) hi7 ⟨by rw [hL.out], hn₀ ▸ B1⟩
end Go.Proofs.Ytomgjapjeckokaa
