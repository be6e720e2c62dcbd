/- SHA-256: the walk of Sum (printed by gen_ixg.py). -/
import Derived.Test.YtomgjapjeckokaaIxF
import Derived.Deep.DeepCutAuto
namespace Go.Proofs.Ytomgjapjeckokaa
open Go.RowKit Go.Shelf Go.Lib

def padZ (n : Nat) : Nat := (119 - n % 64) % 64
def lenB (n i : Nat) : UInt8 := UInt8.ofNat (8 * n / 2 ^ (56 - 8 * i) % 256)
def padL (bl : List UInt8) : List UInt8 := bl ++ [128] ++ List.replicate (padZ bl.length) 0 ++ (List.range 8).map (lenB bl.length)
theorem padL_len (bl : List UInt8) : (padL bl).length = bl.length + 1 + padZ bl.length + 8 := by simp [padL]; omega
theorem padZ_is (n : Nat) : (n + 1 + padZ n) % 64 = 56 ∧ padZ n < 64 := by unfold padZ; omega
theorem padZ_first (n k : Nat) (h : k < padZ n) : (n + 1 + k) % 64 ≠ 56 := by unfold padZ at h; omega
def h0 : H8 := ⟨0x6a09e667, 0xbb67ae85, 0x3c6ef372, 0xa54ff53a, 0x510e527f, 0x9b05688c, 0x1f83d9ab, 0x5be0cd19⟩
theorem h0_l : h0.l = hW0 := rfl
def sumH (l : List UInt8) : Nat → H8
  | 0 => h0
  | k + 1 => turn8 (sumH l k) ((l.drop (64 * k)).take 64)
def byteW (x : W32) (k : Nat) : UInt8 := UInt8.ofNat (x.toNat / 2 ^ (24 - 8 * k) % 256)
/-- the first m bytes of the answer, zeros behind -/
def outB (s : H8) (m : Nat) : List UInt8 := (List.range 32).map fun j => if j < m then byteW (s.l.getD (j / 4) 0) (j % 4) else 0
def shaS (bl : List UInt8) : List UInt8 := outB (sumH (padL bl) ((padL bl).length / 64)) 32
theorem outB_len (s : H8) (m : Nat) : (outB s m).length = 32 := by simp [outB]
theorem shaS_len (bl : List UInt8) : (shaS bl).length = 32 := outB_len _ _
def rowU (l : List UInt8) : Array Value := (l.map fun b => Value.int .u8 b.toNat).toArray
theorem rowU_size (l : List UInt8) : (rowU l).size = l.length := by simp [rowU]
theorem rowU_at {l : List UInt8} {i : Nat} {x : UInt8} (h : l[i]? = some x) : (rowU l)[i]? = some (.int .u8 x.toNat) := by simp [rowU, h]
theorem rowU_set (l : List UInt8) (i : Nat) (x : UInt8) : (rowU l).setIfInBounds i (.int .u8 x.toNat) = rowU (l.set i x) := by simp [rowU, List.map_set]
theorem one_rowU (l : List UInt8) : (rowU l).all (·.oneCell') = true := all_oneCell_toArray (by
  intro v hv
  obtain ⟨x, -, rfl⟩ := List.mem_map.1 hv
  rfl)
theorem outB_set (s : H8) (m : Nat) (_h : m < 32) : (outB s m).set m (byteW (s.l.getD (m / 4) 0) (m % 4)) = outB s (m + 1) := by
  refine List.ext_getElem (by simp [outB]) fun j h1 h2 => ?_
  have hj : j < 32 := by simpa [outB] using h2
  simp only [outB, List.getElem_set, List.getElem_map, List.getElem_range]
  by_cases e : m = j
  · subst e; simp
  · rw [if_neg e]
    by_cases e2 : j < m
    · rw [if_pos e2, if_pos (by omega)]
    · rw [if_neg e2, if_neg (by omega)]
theorem own_baseI {W : World} {base : Nat} {e : TypeId} {size : Nat} {v : Value} {n : Nat} {xs : List Value} (h : W.ownsRow base e size v n xs) {j : Nat} (hj : v.ownBlock = some j) : base ≤ j := by
  rcases h.2 with ⟨rfl, _⟩ | ⟨g, cap, cur, rfl, hg, _⟩
  · simp [Value.ownBlock] at hj
  · simp [Value.ownBlock] at hj; omega
theorem grown_blkI {W W' : World} {base : Nat} {e : TypeId} {size : Nat} {v : Value} {n : Nat} {xs : List Value} (h : W.ownsRow base e size v n xs) (hg : W.grownBy W' v.ownBlock) {b : Nat} (hb : b < base) {o : Obj} (ho : W.heap[b]? = some o) : W'.heap[b]? = some o := by
  refine (hg.block b (Array.getElem?_eq_some_iff.1 ho).1 fun e1 => ?_).trans ho
  have := own_baseI h e1.symm
  omega
theorem sl_sub {w : World} {b o cap J k : Nat} {m : List UInt8} (h1 : J + k ≤ cap) (h2 : cap ≤ maxLen) (h3 : J + k ≤ m.length) (hc : ∀ i x, m[i]? = some x → w.rangeAt b (o + i * 1) (encU x)) :
    Sl w 1 encU (.slice (some ⟨b, o + J, none⟩) k (cap - J)) ((m.drop J).take k) := by
  have hl : ((m.drop J).take k).length = k := by rw [List.length_take, List.length_drop]; omega
  have := Sl.mk (w := w) (k := 1) (enc := encU) (l := (m.drop J).take k) (b := b) (o := o + J) (cap := cap - J) (by rw [hl]; omega) (by omega) fun i x h => ?_
  · rwa [hl] at this
  · have hi : i < k := by have := (List.getElem?_eq_some_iff.1 h).1; omega
    rw [List.getElem?_take, if_pos hi, List.getElem?_drop] at h
    have := hc _ x h
    rw [Nat.mul_one, ← Nat.add_assoc] at this
    rw [Nat.mul_one]
    exact this
theorem upd_owns {W W' : World} {b : Nat} {cs' cs : Array Value} {t e : TypeId} {fr : Nat × Nat} {base size n : Nat} {v : Value} {xs : List Value} (u : Upd b cs' t W W') (hb : W.heap[b]? = some (.cells cs t fr)) (ht : t ≠ e) (h : W.ownsRow base e size v n xs) : W'.ownsRow base e size v n xs := by
  obtain ⟨h0, h1⟩ := h
  refine ⟨h0, ?_⟩
  rcases h1 with h1 | ⟨g, cap, cur, rfl, hg, hh, r⟩
  · exact .inl h1
  · refine .inr ⟨g, cap, cur, rfl, hg, (u.off g fun e9 => ?_).trans hh, r⟩
    subst e9
    rw [hb] at hh
    injection hh with hh
    injection hh with _ h2 _
    exact ht h2
theorem zero32_is (s : H8) : (#[.int .u8 0, .int .u8 0, .int .u8 0, .int .u8 0, .int .u8 0, .int .u8 0, .int .u8 0, .int .u8 0, .int .u8 0, .int .u8 0, .int .u8 0, .int .u8 0, .int .u8 0, .int .u8 0, .int .u8 0, .int .u8 0, .int .u8 0, .int .u8 0, .int .u8 0, .int .u8 0, .int .u8 0, .int .u8 0, .int .u8 0, .int .u8 0, .int .u8 0, .int .u8 0, .int .u8 0, .int .u8 0, .int .u8 0, .int .u8 0, .int .u8 0, .int .u8 0] : Array Value) = rowU (outB s (4 * 0)) := by kernel_rfl
theorem run_index8 (s : H8) (t : Nat) (x : W32) (W : World) (ht : t < 8) (hx : s.l[t]? = some x) :
    Sem.run Try.prog (Instr.index 110 (.agg #[.int .u32 (s.a.toNat : Int), .int .u32 (s.b.toNat : Int), .int .u32 (s.c.toNat : Int), .int .u32 (s.d.toNat : Int), .int .u32 (s.e.toNat : Int), .int .u32 (s.f.toNat : Int), .int .u32 (s.g.toNat : Int), .int .u32 (s.h.toNat : Int)]) (.int .i64 t)) W = .ok (.int .u32 (x.toNat : Int)) W := by
  rw [← rowW_l]
  have h1 : (t : Int) < 8 := by omega
  have h2 := rowW_at hx
  unfold Instr.index
  go_simp
def lenOf : Value → Nat
  | .slice _ n _ => n
  | _ => 0
theorem slU1 (W : World) (c : UInt8) (t : TypeId) (v : Value) (hv : v = .int .u8 c.toNat) : Sl (W.alloc (.cells #[v] t)) 1 encU (.slice (some ⟨W.heap.size, 0, none⟩) 1 1) [c] := by
  subst hv
  refine Sl.mk (l := [c]) (cap := 1) (by simp) (by decide) fun i x h => ?_
  match i, h with
  | 0, h => obtain rfl := Option.some.inj h; exact fun j v hj => by match j, hj with | 0, hj => obtain rfl := Option.some.inj hj; exact cell_blk (World.alloc_heap_new W _) rfl

set_option maxRecDepth 100000 in
set_option maxHeartbeats 1000000 in
theorem Sum_any (bl : List UInt8) (a : Addr) (n cap : Nat) (w : World) (hs : Sl w 1 encU (.slice (some a) n cap) bl) (hb : bl.length ≤ 100000) :
    Calls Try.prog 69 #[.slice (some a) n cap] w fun e w' => e = .returned (.agg (rowU (shaS bl))) ∧ Below w.heap.size w w' := by
  obtain ⟨i0, hi, hz0, hz1, hz2⟩ := infoU8_parts
  obtain rfl : n = bl.length := by
    obtain ⟨p, c, h, -⟩ := hs.shape
    exact (Value.slice.inj h).2.1
  obtain ⟨n₀, hn₀⟩ : ∃ n, w.heap.size = n := ⟨_, rfl⟩
  have g1 := World.alloc_heap_new w (.cells #[.int .u8 0, .int .u8 0, .int .u8 0, .int .u8 0, .int .u8 0, .int .u8 0, .int .u8 0, .int .u8 0, .int .u8 0, .int .u8 0, .int .u8 0, .int .u8 0, .int .u8 0, .int .u8 0, .int .u8 0, .int .u8 0, .int .u8 0, .int .u8 0, .int .u8 0, .int .u8 0, .int .u8 0, .int .u8 0, .int .u8 0, .int .u8 0, .int .u8 0, .int .u8 0, .int .u8 0, .int .u8 0, .int .u8 0, .int .u8 0, .int .u8 0, .int .u8 0] 46)
  rw [hn₀] at g1
  have hz : (w.alloc (.cells #[.int .u8 0, .int .u8 0, .int .u8 0, .int .u8 0, .int .u8 0, .int .u8 0, .int .u8 0, .int .u8 0, .int .u8 0, .int .u8 0, .int .u8 0, .int .u8 0, .int .u8 0, .int .u8 0, .int .u8 0, .int .u8 0, .int .u8 0, .int .u8 0, .int .u8 0, .int .u8 0, .int .u8 0, .int .u8 0, .int .u8 0, .int .u8 0, .int .u8 0, .int .u8 0, .int .u8 0, .int .u8 0, .int .u8 0, .int .u8 0, .int .u8 0, .int .u8 0] 46)).heap.size = n₀ + 1 := by rw [World.size_alloc, hn₀]
  have s1 := (Kept.alloc 0 w (.cells #[.int .u8 0, .int .u8 0, .int .u8 0, .int .u8 0, .int .u8 0, .int .u8 0, .int .u8 0, .int .u8 0, .int .u8 0, .int .u8 0, .int .u8 0, .int .u8 0, .int .u8 0, .int .u8 0, .int .u8 0, .int .u8 0, .int .u8 0, .int .u8 0, .int .u8 0, .int .u8 0, .int .u8 0, .int .u8 0, .int .u8 0, .int .u8 0, .int .u8 0, .int .u8 0, .int .u8 0, .int .u8 0, .int .u8 0, .int .u8 0, .int .u8 0, .int .u8 0] 46)).sl hs
  have B1 : Below n₀ w (w.alloc (.cells #[.int .u8 0, .int .u8 0, .int .u8 0, .int .u8 0, .int .u8 0, .int .u8 0, .int .u8 0, .int .u8 0, .int .u8 0, .int .u8 0, .int .u8 0, .int .u8 0, .int .u8 0, .int .u8 0, .int .u8 0, .int .u8 0, .int .u8 0, .int .u8 0, .int .u8 0, .int .u8 0, .int .u8 0, .int .u8 0, .int .u8 0, .int .u8 0, .int .u8 0, .int .u8 0, .int .u8 0, .int .u8 0, .int .u8 0, .int .u8 0, .int .u8 0, .int .u8 0] 46)) := by rw [← hn₀]; exact (Below.refl _ w).alloc (Nat.le_refl _) _
  have hlw : IntKind.u64.wrap (bl.length : Int) = (bl.length : Int) := by simp [IntKind.wrap, IntKind.bits, IntKind.signed]; omega
  clear hs
  go_enter Try.func69, Try.ntmps69
  go_upto_region 1 with (fail)
  obtain ⟨W1, hW1⟩ : ∃ W : World, W = w.alloc (.cells #[.int .u8 0, .int .u8 0, .int .u8 0, .int .u8 0, .int .u8 0, .int .u8 0, .int .u8 0, .int .u8 0, .int .u8 0, .int .u8 0, .int .u8 0, .int .u8 0, .int .u8 0, .int .u8 0, .int .u8 0, .int .u8 0, .int .u8 0, .int .u8 0, .int .u8 0, .int .u8 0, .int .u8 0, .int .u8 0, .int .u8 0, .int .u8 0, .int .u8 0, .int .u8 0, .int .u8 0, .int .u8 0, .int .u8 0, .int .u8 0, .int .u8 0, .int .u8 0] 46) := ⟨_, rfl⟩
  rw [← hW1] at g1 hz s1 B1 ⊢
  clear hW1
  have cC := hid (bclone_any bl a bl.length cap _ s1 (by omega))
  go_wp2_with (fail)
  refine cC.out.mono ?_
  rintro e w2 ⟨v, rfl, o2, hvn, b2⟩
  rw [hz] at o2
  have g2 := (Kept.of_below b2 0).same _ _ g1 (.inl rfl)
  have B2 := B1.trans (b2.mono (by omega))
  have hz2' : n₀ + 1 ≤ w2.heap.size := by have := b2.size; omega
  clear cC s1 g1 B1 b2 hz
  go_wp2_with (at_builtin; go_must (refine wpList_append_sl rfl _ _ 54 rfl (n₀ + 1) 5 i0 (.int .u8 0) 1 1 Try.underlying54 hi hz0 hz1 hz2 rfl (by decide) _ _ _ rfl ((Kept.alloc 0 w2 _).owns o2) encU _ [128] rfl (slU1 w2 (128) _ _ rfl) (encU_enc _) (by unfold maxLen; simp only [List.length_singleton]; omega) (by simp only [List.length_singleton]; omega) (by simp; omega) ?_; intro v3 w3 o3 hg3 hn3))
  have o3' : w3.ownsRow (n₀ + 1) 5 1 v3 (bl ++ [128]).length ((bl ++ [128]).flatMap encU) := by rw [List.length_append, List.flatMap_append]; exact o3
  have g3 := grown_blkI ((Kept.alloc 0 w2 (.cells #[.int .u8 128] 5)).owns o2) hg3 (show n₀ < n₀ + 1 by omega) ((Kept.alloc 0 w2 (.cells #[.int .u8 128] 5)).same _ _ g2 (.inl rfl))
  have B3 := (B2.alloc (by omega) (.cells #[.int .u8 128] 5)).grown hg3 (by rw [World.size_alloc]; omega) (fun j e => by have := own_baseI ((Kept.alloc 0 w2 (.cells #[.int .u8 128] 5)).owns o2) e; omega)
  have hn3' : v3 ≠ .slice none 0 0 := fun e => hvn (hn3.1 e).1
  clear o3 o2 g2 hg3 hn3 hvn B2
  obtain ⟨L3, hL3⟩ : ∃ L, (bl ++ [128]).length = L := ⟨_, rfl⟩
  rw [hL3] at o3'
  obtain ⟨p3, c3, rfl, -, -⟩ := owns_shape o3'
  have hL3b : L3 = bl.length + 1 := by rw [← hL3]; simp
  have hL3c : L3 ≤ 100001 := by omega
  replace hL3 := hid hL3
  replace hL3b := hid hL3b
  go_wp2_with (fail)
  go_loopw [0] (fun bv wr => ∃ (k : Nat) (l : List UInt8), k ≤ padZ bl.length ∧ l = bl ++ [128] ++ List.replicate k 0 ∧ wr.ownsRow (n₀ + 1) 5 1 bv l.length (l.flatMap encU) ∧ bv ≠ .slice none 0 0 ∧ wr.heap[n₀]? = some (.cells #[.int .u8 0, .int .u8 0, .int .u8 0, .int .u8 0, .int .u8 0, .int .u8 0, .int .u8 0, .int .u8 0, .int .u8 0, .int .u8 0, .int .u8 0, .int .u8 0, .int .u8 0, .int .u8 0, .int .u8 0, .int .u8 0, .int .u8 0, .int .u8 0, .int .u8 0, .int .u8 0, .int .u8 0, .int .u8 0, .int .u8 0, .int .u8 0, .int .u8 0, .int .u8 0, .int .u8 0, .int .u8 0, .int .u8 0, .int .u8 0, .int .u8 0, .int .u8 0] 46 (0, 0)) ∧ Below n₀ w wr) (fun bv _ => bl.length + 200 - lenOf bv)
  case atStart => exact ⟨0, bl ++ [128], Nat.zero_le _, by rw [List.replicate_zero, List.append_nil], by rw [hL3.out]; exact o3', hn3', g3, B3⟩
  case round =>
    obtain ⟨k, l, hk, hle, oW, hnn, gW, hB⟩ := hrel
    clear o3' g3 B3 hn3'
    have hll : l.length = bl.length + 1 + k := by rw [hle]; simp; omega
    obtain ⟨hp1, hp2⟩ := padZ_is bl.length
    obtain ⟨pv, cv, rfl, -, -⟩ := owns_shape oW
    obtain ⟨L, hL⟩ : ∃ L, l.length = L := ⟨_, rfl⟩
    rw [hL] at oW hnn hll ⊢
    have hmod : ((L : Int).tmod 64) = ((L % 64 : Nat) : Int) := rfl
    have hLb : L ≤ 100064 := by omega
    have hLc : L ≤ bl.length + 64 := by omega
    by_cases hkz : k < padZ bl.length
    · have hne : ((L % 64 : Nat) : Int) ≠ 56 := by have := padZ_first bl.length k hkz; omega
      obtain ⟨M, hM⟩ : ∃ M : Int, ((L % 64 : Nat) : Int) = M := ⟨_, rfl⟩
      rw [hM] at hmod hne
      clear hM hp1
      replace hll := hid hll
      replace hle := hid hle
      replace hL := hid hL
      go_wp2_with (at_builtin; go_must (refine wpList_append_sl rfl _ _ 54 rfl (n₀ + 1) 5 i0 (.int .u8 0) 1 1 Try.underlying54 hi hz0 hz1 hz2 rfl (by decide) _ _ _ rfl ((Kept.alloc 0 wr _).owns oW) encU _ [0] rfl (slU1 wr (0) _ _ rfl) (encU_enc _) (by unfold maxLen; simp only [List.length_singleton]; omega) (by simp only [List.length_singleton]; omega) (by have := hB.size; have := (Array.getElem?_eq_some_iff.1 gW).1; simp; omega) ?_; intro v4 w4 o4 hg4 hn4))
      have o4' : w4.ownsRow (n₀ + 1) 5 1 v4 (l ++ [0]).length ((l ++ [0]).flatMap encU) := by rw [List.length_append, List.flatMap_append, hL.out]; exact o4
      have g4 := grown_blkI ((Kept.alloc 0 wr (.cells #[.int .u8 0] 5)).owns oW) hg4 (show n₀ < n₀ + 1 by omega) ((Kept.alloc 0 wr (.cells #[.int .u8 0] 5)).same _ _ gW (.inl rfl))
      have B4 := (hB.alloc (by have := hB.size; omega) (.cells #[.int .u8 0] 5)).grown hg4 (by rw [World.size_alloc]; have := hB.size; omega) (fun j e => by have := own_baseI ((Kept.alloc 0 wr (.cells #[.int .u8 0] 5)).owns oW) e; omega)
      have hn4' : v4 ≠ .slice none 0 0 := fun e => hnn (hn4.1 e).1
      obtain ⟨p4, c4, rfl, -, -⟩ := owns_shape o4'
      go_wp2_with (fail)
      refine ⟨?_, ?_⟩
      · first
        | exact ⟨k + 1, l ++ [0], by omega, by rw [hle.out, List.replicate_succ', ← List.append_assoc], o4', hn4', g4, B4⟩
        | ((repeat apply Exists.intro); refine ⟨?_, rfl⟩; exact ⟨k + 1, l ++ [0], by omega, by rw [hle.out, List.replicate_succ', ← List.append_assoc], o4', hn4', g4, B4⟩)
      · show _ - (l ++ [0]).length < _ - L; rw [List.length_append, hL.out]; simp only [List.length_singleton]; omega
    · obtain rfl : k = padZ bl.length := by omega
      have hM : ((L % 64 : Nat) : Int) = 56 := by omega
      rw [hM] at hmod
      clear hM
      replace hll := hid hll
      go_wp2_with (fail)
      go_loopw [0, 26] (fun bv iv wr => ∃ (i : Nat) (m : List UInt8), i ≤ 8 ∧ iv = .int .i64 i ∧ m = l ++ (List.range i).map (lenB bl.length) ∧ wr.ownsRow (n₀ + 1) 5 1 bv m.length (m.flatMap encU) ∧ bv ≠ .slice none 0 0 ∧ wr.heap[n₀]? = some (.cells #[.int .u8 0, .int .u8 0, .int .u8 0, .int .u8 0, .int .u8 0, .int .u8 0, .int .u8 0, .int .u8 0, .int .u8 0, .int .u8 0, .int .u8 0, .int .u8 0, .int .u8 0, .int .u8 0, .int .u8 0, .int .u8 0, .int .u8 0, .int .u8 0, .int .u8 0, .int .u8 0, .int .u8 0, .int .u8 0, .int .u8 0, .int .u8 0, .int .u8 0, .int .u8 0, .int .u8 0, .int .u8 0, .int .u8 0, .int .u8 0, .int .u8 0, .int .u8 0] 46 (0, 0)) ∧ Below n₀ w wr) (fun _ iv _ => 8 - (RowKit.intOf iv).toNat)
      case atStart => exact ⟨0, l, Nat.zero_le _, rfl, by simp, by rw [hL]; exact oW, hnn, gW, hB⟩
      case round =>
        obtain ⟨i, m, hi8, rfl, hme, oM, hnm, gM, hBM⟩ := hrel
        clear oW gW hB hnn
        have hml : m.length = L + i := by rw [hme]; simp [hL]
        obtain ⟨pm, cm, rfl, -, -⟩ := owns_shape oM
        obtain ⟨Q, hQ⟩ : ∃ Q, m.length = Q := ⟨_, rfl⟩
        rw [hQ] at oM hnm hml ⊢
        have hQb : Q ≤ 100072 := by omega
        replace hml := hid hml
        by_cases hilt : i < 8
        · have hiI : (i : Int) < 8 := by omega
          have hw1 : IntKind.i64.wrap (8 * (i : Int)) = 8 * (i : Int) := by rw [IntKind.wrap_i64]; omega
          have hw2 : IntKind.i64.wrap (56 - 8 * (i : Int)) = 56 - 8 * (i : Int) := by rw [IntKind.wrap_i64]; omega
          replace hme := hid hme
          replace hQ := hid hQ
          have h7 : i = 0 ∨ i = 1 ∨ i = 2 ∨ i = 3 ∨ i = 4 ∨ i = 5 ∨ i = 6 ∨ i = 7 := by omega
          rcases h7 with rfl | rfl | rfl | rfl | rfl | rfl | rfl | rfl
          · go_wp2_with (at_builtin; go_must (refine wpList_append_sl rfl _ _ 54 rfl (n₀ + 1) 5 i0 (.int .u8 0) 1 1 Try.underlying54 hi hz0 hz1 hz2 rfl (by decide) _ _ _ rfl ((Kept.alloc 0 wr _).owns oM) encU _ [lenB bl.length 0] rfl (slU1 wr (lenB bl.length 0) _ _ (by congr 1; simp only [lenB, UInt8.toNat_ofNat']; omega)) (encU_enc _) (by unfold maxLen; simp only [List.length_singleton]; omega) (by simp only [List.length_singleton]; omega) (by have := hBM.size; have := (Array.getElem?_eq_some_iff.1 gM).1; simp; omega) ?_; intro v5 w5 o5 hg5 hn5))
            have o5' : w5.ownsRow (n₀ + 1) 5 1 v5 (m ++ [lenB bl.length 0]).length ((m ++ [lenB bl.length 0]).flatMap encU) := by rw [List.length_append, List.flatMap_append, hQ.out]; exact o5
            have g5 := grown_blkI ((Kept.alloc 0 wr _).owns oM) hg5 (show n₀ < n₀ + 1 by omega) ((Kept.alloc 0 wr _).same _ _ gM (.inl rfl))
            have B5 := (hBM.alloc (by have := hBM.size; omega) _).grown hg5 (by rw [World.size_alloc]; have := hBM.size; omega) (fun j e => by have := own_baseI oM e; omega)
            have hn5' : v5 ≠ .slice none 0 0 := fun e => hnm (hn5.1 e).1
            obtain ⟨p5, c5, rfl, -, -⟩ := owns_shape o5'
            go_wp2_with (fail)
            refine ⟨?_, ?_⟩
            · first
              | exact ⟨1, m ++ [lenB bl.length 0], by omega, rfl, by rw [hme.out]; simp [List.range_succ], o5', hn5', g5, B5⟩
              | ((repeat apply Exists.intro); refine ⟨?_, rfl⟩; exact ⟨1, m ++ [lenB bl.length 0], by omega, rfl, by rw [hme.out]; simp [List.range_succ], o5', hn5', g5, B5⟩)
            · simp [RowKit.intOf]
          · go_wp2_with (at_builtin; go_must (refine wpList_append_sl rfl _ _ 54 rfl (n₀ + 1) 5 i0 (.int .u8 0) 1 1 Try.underlying54 hi hz0 hz1 hz2 rfl (by decide) _ _ _ rfl ((Kept.alloc 0 wr _).owns oM) encU _ [lenB bl.length 1] rfl (slU1 wr (lenB bl.length 1) _ _ (by congr 1; simp only [lenB, UInt8.toNat_ofNat']; omega)) (encU_enc _) (by unfold maxLen; simp only [List.length_singleton]; omega) (by simp only [List.length_singleton]; omega) (by have := hBM.size; have := (Array.getElem?_eq_some_iff.1 gM).1; simp; omega) ?_; intro v5 w5 o5 hg5 hn5))
            have o5' : w5.ownsRow (n₀ + 1) 5 1 v5 (m ++ [lenB bl.length 1]).length ((m ++ [lenB bl.length 1]).flatMap encU) := by rw [List.length_append, List.flatMap_append, hQ.out]; exact o5
            have g5 := grown_blkI ((Kept.alloc 0 wr _).owns oM) hg5 (show n₀ < n₀ + 1 by omega) ((Kept.alloc 0 wr _).same _ _ gM (.inl rfl))
            have B5 := (hBM.alloc (by have := hBM.size; omega) _).grown hg5 (by rw [World.size_alloc]; have := hBM.size; omega) (fun j e => by have := own_baseI oM e; omega)
            have hn5' : v5 ≠ .slice none 0 0 := fun e => hnm (hn5.1 e).1
            obtain ⟨p5, c5, rfl, -, -⟩ := owns_shape o5'
            go_wp2_with (fail)
            refine ⟨?_, ?_⟩
            · first
              | exact ⟨2, m ++ [lenB bl.length 1], by omega, rfl, by rw [hme.out]; simp [List.range_succ], o5', hn5', g5, B5⟩
              | ((repeat apply Exists.intro); refine ⟨?_, rfl⟩; exact ⟨2, m ++ [lenB bl.length 1], by omega, rfl, by rw [hme.out]; simp [List.range_succ], o5', hn5', g5, B5⟩)
            · simp [RowKit.intOf]
          · go_wp2_with (at_builtin; go_must (refine wpList_append_sl rfl _ _ 54 rfl (n₀ + 1) 5 i0 (.int .u8 0) 1 1 Try.underlying54 hi hz0 hz1 hz2 rfl (by decide) _ _ _ rfl ((Kept.alloc 0 wr _).owns oM) encU _ [lenB bl.length 2] rfl (slU1 wr (lenB bl.length 2) _ _ (by congr 1; simp only [lenB, UInt8.toNat_ofNat']; omega)) (encU_enc _) (by unfold maxLen; simp only [List.length_singleton]; omega) (by simp only [List.length_singleton]; omega) (by have := hBM.size; have := (Array.getElem?_eq_some_iff.1 gM).1; simp; omega) ?_; intro v5 w5 o5 hg5 hn5))
            have o5' : w5.ownsRow (n₀ + 1) 5 1 v5 (m ++ [lenB bl.length 2]).length ((m ++ [lenB bl.length 2]).flatMap encU) := by rw [List.length_append, List.flatMap_append, hQ.out]; exact o5
            have g5 := grown_blkI ((Kept.alloc 0 wr _).owns oM) hg5 (show n₀ < n₀ + 1 by omega) ((Kept.alloc 0 wr _).same _ _ gM (.inl rfl))
            have B5 := (hBM.alloc (by have := hBM.size; omega) _).grown hg5 (by rw [World.size_alloc]; have := hBM.size; omega) (fun j e => by have := own_baseI oM e; omega)
            have hn5' : v5 ≠ .slice none 0 0 := fun e => hnm (hn5.1 e).1
            obtain ⟨p5, c5, rfl, -, -⟩ := owns_shape o5'
            go_wp2_with (fail)
            refine ⟨?_, ?_⟩
            · first
              | exact ⟨3, m ++ [lenB bl.length 2], by omega, rfl, by rw [hme.out]; simp [List.range_succ], o5', hn5', g5, B5⟩
              | ((repeat apply Exists.intro); refine ⟨?_, rfl⟩; exact ⟨3, m ++ [lenB bl.length 2], by omega, rfl, by rw [hme.out]; simp [List.range_succ], o5', hn5', g5, B5⟩)
            · simp [RowKit.intOf]
          · go_wp2_with (at_builtin; go_must (refine wpList_append_sl rfl _ _ 54 rfl (n₀ + 1) 5 i0 (.int .u8 0) 1 1 Try.underlying54 hi hz0 hz1 hz2 rfl (by decide) _ _ _ rfl ((Kept.alloc 0 wr _).owns oM) encU _ [lenB bl.length 3] rfl (slU1 wr (lenB bl.length 3) _ _ (by congr 1; simp only [lenB, UInt8.toNat_ofNat']; omega)) (encU_enc _) (by unfold maxLen; simp only [List.length_singleton]; omega) (by simp only [List.length_singleton]; omega) (by have := hBM.size; have := (Array.getElem?_eq_some_iff.1 gM).1; simp; omega) ?_; intro v5 w5 o5 hg5 hn5))
            have o5' : w5.ownsRow (n₀ + 1) 5 1 v5 (m ++ [lenB bl.length 3]).length ((m ++ [lenB bl.length 3]).flatMap encU) := by rw [List.length_append, List.flatMap_append, hQ.out]; exact o5
            have g5 := grown_blkI ((Kept.alloc 0 wr _).owns oM) hg5 (show n₀ < n₀ + 1 by omega) ((Kept.alloc 0 wr _).same _ _ gM (.inl rfl))
            have B5 := (hBM.alloc (by have := hBM.size; omega) _).grown hg5 (by rw [World.size_alloc]; have := hBM.size; omega) (fun j e => by have := own_baseI oM e; omega)
            have hn5' : v5 ≠ .slice none 0 0 := fun e => hnm (hn5.1 e).1
            obtain ⟨p5, c5, rfl, -, -⟩ := owns_shape o5'
            go_wp2_with (fail)
            refine ⟨?_, ?_⟩
            · first
              | exact ⟨4, m ++ [lenB bl.length 3], by omega, rfl, by rw [hme.out]; simp [List.range_succ], o5', hn5', g5, B5⟩
              | ((repeat apply Exists.intro); refine ⟨?_, rfl⟩; exact ⟨4, m ++ [lenB bl.length 3], by omega, rfl, by rw [hme.out]; simp [List.range_succ], o5', hn5', g5, B5⟩)
            · simp [RowKit.intOf]
          · go_wp2_with (at_builtin; go_must (refine wpList_append_sl rfl _ _ 54 rfl (n₀ + 1) 5 i0 (.int .u8 0) 1 1 Try.underlying54 hi hz0 hz1 hz2 rfl (by decide) _ _ _ rfl ((Kept.alloc 0 wr _).owns oM) encU _ [lenB bl.length 4] rfl (slU1 wr (lenB bl.length 4) _ _ (by congr 1; simp only [lenB, UInt8.toNat_ofNat']; omega)) (encU_enc _) (by unfold maxLen; simp only [List.length_singleton]; omega) (by simp only [List.length_singleton]; omega) (by have := hBM.size; have := (Array.getElem?_eq_some_iff.1 gM).1; simp; omega) ?_; intro v5 w5 o5 hg5 hn5))
            have o5' : w5.ownsRow (n₀ + 1) 5 1 v5 (m ++ [lenB bl.length 4]).length ((m ++ [lenB bl.length 4]).flatMap encU) := by rw [List.length_append, List.flatMap_append, hQ.out]; exact o5
            have g5 := grown_blkI ((Kept.alloc 0 wr _).owns oM) hg5 (show n₀ < n₀ + 1 by omega) ((Kept.alloc 0 wr _).same _ _ gM (.inl rfl))
            have B5 := (hBM.alloc (by have := hBM.size; omega) _).grown hg5 (by rw [World.size_alloc]; have := hBM.size; omega) (fun j e => by have := own_baseI oM e; omega)
            have hn5' : v5 ≠ .slice none 0 0 := fun e => hnm (hn5.1 e).1
            obtain ⟨p5, c5, rfl, -, -⟩ := owns_shape o5'
            go_wp2_with (fail)
            refine ⟨?_, ?_⟩
            · first
              | exact ⟨5, m ++ [lenB bl.length 4], by omega, rfl, by rw [hme.out]; simp [List.range_succ], o5', hn5', g5, B5⟩
              | ((repeat apply Exists.intro); refine ⟨?_, rfl⟩; exact ⟨5, m ++ [lenB bl.length 4], by omega, rfl, by rw [hme.out]; simp [List.range_succ], o5', hn5', g5, B5⟩)
            · simp [RowKit.intOf]
          · go_wp2_with (at_builtin; go_must (refine wpList_append_sl rfl _ _ 54 rfl (n₀ + 1) 5 i0 (.int .u8 0) 1 1 Try.underlying54 hi hz0 hz1 hz2 rfl (by decide) _ _ _ rfl ((Kept.alloc 0 wr _).owns oM) encU _ [lenB bl.length 5] rfl (slU1 wr (lenB bl.length 5) _ _ (by congr 1; simp only [lenB, UInt8.toNat_ofNat']; omega)) (encU_enc _) (by unfold maxLen; simp only [List.length_singleton]; omega) (by simp only [List.length_singleton]; omega) (by have := hBM.size; have := (Array.getElem?_eq_some_iff.1 gM).1; simp; omega) ?_; intro v5 w5 o5 hg5 hn5))
            have o5' : w5.ownsRow (n₀ + 1) 5 1 v5 (m ++ [lenB bl.length 5]).length ((m ++ [lenB bl.length 5]).flatMap encU) := by rw [List.length_append, List.flatMap_append, hQ.out]; exact o5
            have g5 := grown_blkI ((Kept.alloc 0 wr _).owns oM) hg5 (show n₀ < n₀ + 1 by omega) ((Kept.alloc 0 wr _).same _ _ gM (.inl rfl))
            have B5 := (hBM.alloc (by have := hBM.size; omega) _).grown hg5 (by rw [World.size_alloc]; have := hBM.size; omega) (fun j e => by have := own_baseI oM e; omega)
            have hn5' : v5 ≠ .slice none 0 0 := fun e => hnm (hn5.1 e).1
            obtain ⟨p5, c5, rfl, -, -⟩ := owns_shape o5'
            go_wp2_with (fail)
            refine ⟨?_, ?_⟩
            · first
              | exact ⟨6, m ++ [lenB bl.length 5], by omega, rfl, by rw [hme.out]; simp [List.range_succ], o5', hn5', g5, B5⟩
              | ((repeat apply Exists.intro); refine ⟨?_, rfl⟩; exact ⟨6, m ++ [lenB bl.length 5], by omega, rfl, by rw [hme.out]; simp [List.range_succ], o5', hn5', g5, B5⟩)
            · simp [RowKit.intOf]
          · go_wp2_with (at_builtin; go_must (refine wpList_append_sl rfl _ _ 54 rfl (n₀ + 1) 5 i0 (.int .u8 0) 1 1 Try.underlying54 hi hz0 hz1 hz2 rfl (by decide) _ _ _ rfl ((Kept.alloc 0 wr _).owns oM) encU _ [lenB bl.length 6] rfl (slU1 wr (lenB bl.length 6) _ _ (by congr 1; simp only [lenB, UInt8.toNat_ofNat']; omega)) (encU_enc _) (by unfold maxLen; simp only [List.length_singleton]; omega) (by simp only [List.length_singleton]; omega) (by have := hBM.size; have := (Array.getElem?_eq_some_iff.1 gM).1; simp; omega) ?_; intro v5 w5 o5 hg5 hn5))
            have o5' : w5.ownsRow (n₀ + 1) 5 1 v5 (m ++ [lenB bl.length 6]).length ((m ++ [lenB bl.length 6]).flatMap encU) := by rw [List.length_append, List.flatMap_append, hQ.out]; exact o5
            have g5 := grown_blkI ((Kept.alloc 0 wr _).owns oM) hg5 (show n₀ < n₀ + 1 by omega) ((Kept.alloc 0 wr _).same _ _ gM (.inl rfl))
            have B5 := (hBM.alloc (by have := hBM.size; omega) _).grown hg5 (by rw [World.size_alloc]; have := hBM.size; omega) (fun j e => by have := own_baseI oM e; omega)
            have hn5' : v5 ≠ .slice none 0 0 := fun e => hnm (hn5.1 e).1
            obtain ⟨p5, c5, rfl, -, -⟩ := owns_shape o5'
            go_wp2_with (fail)
            refine ⟨?_, ?_⟩
            · first
              | exact ⟨7, m ++ [lenB bl.length 6], by omega, rfl, by rw [hme.out]; simp [List.range_succ], o5', hn5', g5, B5⟩
              | ((repeat apply Exists.intro); refine ⟨?_, rfl⟩; exact ⟨7, m ++ [lenB bl.length 6], by omega, rfl, by rw [hme.out]; simp [List.range_succ], o5', hn5', g5, B5⟩)
            · simp [RowKit.intOf]
          · go_wp2_with (at_builtin; go_must (refine wpList_append_sl rfl _ _ 54 rfl (n₀ + 1) 5 i0 (.int .u8 0) 1 1 Try.underlying54 hi hz0 hz1 hz2 rfl (by decide) _ _ _ rfl ((Kept.alloc 0 wr _).owns oM) encU _ [lenB bl.length 7] rfl (slU1 wr (lenB bl.length 7) _ _ (by congr 1; simp only [lenB, UInt8.toNat_ofNat']; omega)) (encU_enc _) (by unfold maxLen; simp only [List.length_singleton]; omega) (by simp only [List.length_singleton]; omega) (by have := hBM.size; have := (Array.getElem?_eq_some_iff.1 gM).1; simp; omega) ?_; intro v5 w5 o5 hg5 hn5))
            have o5' : w5.ownsRow (n₀ + 1) 5 1 v5 (m ++ [lenB bl.length 7]).length ((m ++ [lenB bl.length 7]).flatMap encU) := by rw [List.length_append, List.flatMap_append, hQ.out]; exact o5
            have g5 := grown_blkI ((Kept.alloc 0 wr _).owns oM) hg5 (show n₀ < n₀ + 1 by omega) ((Kept.alloc 0 wr _).same _ _ gM (.inl rfl))
            have B5 := (hBM.alloc (by have := hBM.size; omega) _).grown hg5 (by rw [World.size_alloc]; have := hBM.size; omega) (fun j e => by have := own_baseI oM e; omega)
            have hn5' : v5 ≠ .slice none 0 0 := fun e => hnm (hn5.1 e).1
            obtain ⟨p5, c5, rfl, -, -⟩ := owns_shape o5'
            go_wp2_with (fail)
            refine ⟨?_, ?_⟩
            · first
              | exact ⟨8, m ++ [lenB bl.length 7], by omega, rfl, by rw [hme.out]; simp [List.range_succ], o5', hn5', g5, B5⟩
              | ((repeat apply Exists.intro); refine ⟨?_, rfl⟩; exact ⟨8, m ++ [lenB bl.length 7], by omega, rfl, by rw [hme.out]; simp [List.range_succ], o5', hn5', g5, B5⟩)
            · simp [RowKit.intOf]
        · obtain rfl : i = 8 := by omega
          have hpl : m = padL bl := by rw [hme, hle]; rfl
          obtain ⟨R, hR⟩ : ∃ R, Q = 64 * R := ⟨Q / 64, by have := hll.out; have := hml.out; omega⟩
          have hRb : R ≤ 2000 := by omega
          have hR0 : 0 < R := by have := hll.out; have := hml.out; omega
          have hmQ : m.length = Q := hQ
          replace hmQ := hid hmQ
          replace hR := hid hR
          clear hme hle hL
          replace hpl := hid hpl
          have cS := hid (fun W => start_any W)
          rw [← h0_l] at cS
          go_wp2_with (fail)
          refine (cS.out _).mono ?_
          rintro e w6 ⟨rfl, b6⟩
          have g6 := (Kept.of_below b6 0).same _ _ gM (.inl rfl)
          have o6 := (Kept.of_below b6 0).owns oM
          have B6 := hBM.trans (b6.mono (by have := hBM.size; omega))
          obtain ⟨nh, hnh⟩ : ∃ n, w6.heap.size = n := ⟨_, rfl⟩
          have hnh2 : n₀ + 1 ≤ nh := by have := (Array.getElem?_eq_some_iff.1 g6).1; omega
          have h7 := World.alloc_heap_new w6 (.cells (rowW h0.l) 110)
          rw [hnh] at h7
          have g7 := (Kept.alloc 0 w6 (.cells (rowW h0.l) 110)).same _ _ g6 (.inl rfl)
          have o7 := (Kept.alloc 0 w6 (.cells (rowW h0.l) 110)).owns o6
          have B7 := B6.alloc (by have := B6.size; omega) (.cells (rowW h0.l) 110)
          rw [rowW_l] at h7 g7 o7 B7 ⊢
          clear cS g6 o6 B6 b6 gM oM hBM
          go_wp2_with (fail)
          go_loopw [6] (fun iv wr => ∃ j J : Nat, j ≤ R ∧ J = 64 * j ∧ iv = .int .i64 J ∧ wr.heap[nh]? = some (.cells (rowW (sumH m j).l) 110 (0, 0)) ∧ wr.ownsRow (n₀ + 1) 5 1 (.slice pm Q cm) Q (m.flatMap encU) ∧ wr.heap[n₀]? = some (.cells #[.int .u8 0, .int .u8 0, .int .u8 0, .int .u8 0, .int .u8 0, .int .u8 0, .int .u8 0, .int .u8 0, .int .u8 0, .int .u8 0, .int .u8 0, .int .u8 0, .int .u8 0, .int .u8 0, .int .u8 0, .int .u8 0, .int .u8 0, .int .u8 0, .int .u8 0, .int .u8 0, .int .u8 0, .int .u8 0, .int .u8 0, .int .u8 0, .int .u8 0, .int .u8 0, .int .u8 0, .int .u8 0, .int .u8 0, .int .u8 0, .int .u8 0, .int .u8 0] 46 (0, 0)) ∧ Below n₀ w wr) (fun iv _ => Q - (RowKit.intOf iv).toNat)
          case atStart => exact ⟨0, 0, Nat.zero_le _, rfl, rfl, by rw [rowW_l]; exact h7, o7, g7, B7⟩
          case round =>
            obtain ⟨j, J, hj, hJ, rfl, rH, rO, rG, rB⟩ := hrel
            clear h7 o7 g7 B7
            have hQR := hR.out
            by_cases hjR : j < R
            · have hJQ : J + 64 ≤ Q := by omega
              have hJI : (J : Int) + 64 ≤ (Q : Int) := by omega
              have hJI2 : (J : Int) < (Q : Int) := by omega
              obtain ⟨E, hE⟩ : ∃ E, J + 64 = E := ⟨_, rfl⟩
              have hJw : IntKind.i64.wrap ((J : Int) + 64) = (E : Int) := by rw [IntKind.wrap_i64]; omega
              have hJl : E - J = 64 := by omega
              have hsl := sl_of_owns (enc := encU) (l := m) (fun _ _ => rfl) (by rw [hmQ.out]; exact rO)
              obtain ⟨vb, vo, cp, hev, hv1, hv2, hv3⟩ := hsl.open (by intro h; have := hmQ.out; rw [h] at this; simp at this; omega)
              obtain ⟨rfl, -, rfl⟩ := Value.slice.inj hev
              have hQn : Q ≤ cm := by have := hmQ.out; omega
              have hQc : (E : Int) ≤ (cm : Int) := by omega
              have hQd : E ≤ cm := by omega
              have hJE : J ≤ E := by omega
              have hcJ : ¬ cm = J := by omega
              have hsub : Sl wr.drew 1 encU (.slice (some ⟨vb, vo + J, none⟩) 64 (cm - J)) ((m.drop J).take 64) := sl_sub (w := wr.drew) (by have := hmQ.out; omega) hv2 (by have := hmQ.out; omega) hv3
              have cT := hid (turn_any (sumH m j) ((m.drop J).take 64) _ wr.drew (by rw [List.length_take, List.length_drop, hmQ.out]; omega) hsub)
              obtain ⟨s0, hs0⟩ : ∃ s, sumH m j = s := ⟨_, rfl⟩
              obtain ⟨sn, hsn⟩ : ∃ s, turn8 s0 ((m.drop J).take 64) = s := ⟨_, rfl⟩
              have hnx : sumH m (j + 1) = sn := by rw [sumH, hs0, ← hJ, hsn]
              rw [hs0, hsn] at cT
              simp only [rowW_l] at cT
              rw [hs0] at rH
              have c0 : wr.cell? ⟨nh, 0, none⟩ = some (.int .u32 (s0.a.toNat : Int)) := cell_blk (i := 0) rH rfl
              have c1 : wr.cell? ⟨nh, 1, none⟩ = some (.int .u32 (s0.b.toNat : Int)) := cell_blk (i := 1) rH rfl
              have c2 : wr.cell? ⟨nh, 2, none⟩ = some (.int .u32 (s0.c.toNat : Int)) := cell_blk (i := 2) rH rfl
              have c3 : wr.cell? ⟨nh, 3, none⟩ = some (.int .u32 (s0.d.toNat : Int)) := cell_blk (i := 3) rH rfl
              have c4 : wr.cell? ⟨nh, 4, none⟩ = some (.int .u32 (s0.e.toNat : Int)) := cell_blk (i := 4) rH rfl
              have c5 : wr.cell? ⟨nh, 5, none⟩ = some (.int .u32 (s0.f.toNat : Int)) := cell_blk (i := 5) rH rfl
              have c6 : wr.cell? ⟨nh, 6, none⟩ = some (.int .u32 (s0.g.toNat : Int)) := cell_blk (i := 6) rH rfl
              have c7 : wr.cell? ⟨nh, 7, none⟩ = some (.int .u32 (s0.h.toNat : Int)) := cell_blk (i := 7) rH rfl
              clear hsl hev hv1 hv2 hv3 hsub hs0 hsn hQR
              replace hnx := hid hnx
              replace hJ := hid hJ
              replace hE := hid hE
              go_upto_region 14 with (fail)
              refine wp_region_any (by kernel_rfl) ?_
              try (change wpAny _ _ _ _ _ _ _ (World.drew _))
              refine wpAny_take (i := 1) (oi := ⟨some 47, _, _, _, _, _⟩) (v := ?_) rfl (by kernel_rfl) (by kernel_rfl) (by kernel_rfl) (fun _ _ _ h => h) (Or.inl ⟨by rfl, ?_⟩) ?_
              rotate_left
              · intro w; go_simp <;> with_reducible rfl
              simp only [Act.put, List.setIfInBounds_toArray, List.set_cons_zero, List.set_cons_succ]
              refine wpAny_take (i := 2) (oi := ⟨some 48, _, _, _, _, _⟩) (v := ?_) rfl (by kernel_rfl) (by kernel_rfl) (by kernel_rfl) (fun _ _ _ h => h) (Or.inl ⟨by rfl, ?_⟩) ?_
              rotate_left
              · intro w; go_simp <;> with_reducible rfl
              simp only [Act.put, List.setIfInBounds_toArray, List.set_cons_zero, List.set_cons_succ]
              refine wpAny_take (i := 3) (oi := ⟨some 49, _, _, _, _, _⟩) (v := ?_) rfl (by kernel_rfl) (by kernel_rfl) (by kernel_rfl) (fun _ _ _ h => h) (Or.inl ⟨by rfl, ?_⟩) ?_
              rotate_left
              · intro w; go_simp <;> with_reducible rfl
              simp only [Act.put, List.setIfInBounds_toArray, List.set_cons_zero, List.set_cons_succ]
              refine wpAny_take (i := 4) (oi := ⟨some 50, _, _, _, _, _⟩) (v := ?_) rfl (by kernel_rfl) (by kernel_rfl) (by kernel_rfl) (fun _ _ _ h => h) (Or.inl ⟨by rfl, ?_⟩) ?_
              rotate_left
              · intro w; go_simp <;> with_reducible rfl
              simp only [Act.put, List.setIfInBounds_toArray, List.set_cons_zero, List.set_cons_succ]
              refine wpAny_take (i := 5) (oi := ⟨some 51, _, _, _, _, _⟩) (v := ?_) rfl (by kernel_rfl) (by kernel_rfl) (by kernel_rfl) (fun _ _ _ h => h) (Or.inl ⟨by rfl, ?_⟩) ?_
              rotate_left
              · intro w; go_simp <;> with_reducible rfl
              simp only [Act.put, List.setIfInBounds_toArray, List.set_cons_zero, List.set_cons_succ]
              refine wpAny_ready (rs := [0]) (by kernel_rfl) (by simp) ?_
              refine AllReady.cons rfl (fun K hK => ?_) AllReady.nil
              go_simp
              first | refine hK _ _ ?_ | refine ⟨trivial, hK _ _ ?_⟩ | refine ⟨fun _ _ => trivial, hK _ _ ?_⟩
              clear hK K
              refine wpAny_ready (rs := [6]) (by kernel_rfl) (by simp) ?_
              refine AllReady.cons rfl (fun K hK => ?_) AllReady.nil
              go_simp
              refine cT.out.mono ?_
              rintro e w9 ⟨rfl, b9⟩
              have k9 := Kept.of_below b9 0
              have g9 := k9.same _ _ (show wr.drew.heap[n₀]? = _ from rG) (.inl rfl)
              have r9 := k9.same _ _ (show wr.drew.heap[nh]? = _ from rH) (.inl rfl)
              have o9 := k9.owns ((Kept.drewN 0 wr 1).owns rO)
              have B9 := (rB.drewN 1).trans (b9.mono (by have h9 : wr.drew.heap.size = wr.heap.size := rfl; have := rB.size; omega))
              have x0 : w9.cell? ⟨nh, 0, none⟩ = some (.int .u32 (s0.a.toNat : Int)) := cell_blk (i := 0) r9 rfl
              have x1 : w9.cell? ⟨nh, 1, none⟩ = some (.int .u32 (s0.b.toNat : Int)) := cell_blk (i := 1) r9 rfl
              have x2 : w9.cell? ⟨nh, 2, none⟩ = some (.int .u32 (s0.c.toNat : Int)) := cell_blk (i := 2) r9 rfl
              have x3 : w9.cell? ⟨nh, 3, none⟩ = some (.int .u32 (s0.d.toNat : Int)) := cell_blk (i := 3) r9 rfl
              have x4 : w9.cell? ⟨nh, 4, none⟩ = some (.int .u32 (s0.e.toNat : Int)) := cell_blk (i := 4) r9 rfl
              have x5 : w9.cell? ⟨nh, 5, none⟩ = some (.int .u32 (s0.f.toNat : Int)) := cell_blk (i := 5) r9 rfl
              have x6 : w9.cell? ⟨nh, 6, none⟩ = some (.int .u32 (s0.g.toNat : Int)) := cell_blk (i := 6) r9 rfl
              have x7 : w9.cell? ⟨nh, 7, none⟩ = some (.int .u32 (s0.h.toNat : Int)) := cell_blk (i := 7) r9 rfl
              have fz : ∀ k, w9.frozen? ⟨nh, k, none⟩ = false := fun k => frozen_blk r9
              have u9 := (Upd.refl r9).setCells (rowW sn.l).toList (by rw [Array.length_toList, rowW_size, rowW_size]; rfl)
              have eN : w9.setCells nh 0 (rowW sn.l).toList = ((((((((w9.setCell ⟨nh, 0, none⟩ (.int .u32 (sn.a.toNat : Int))).setCell ⟨nh, 1, none⟩ (.int .u32 (sn.b.toNat : Int))).setCell ⟨nh, 2, none⟩ (.int .u32 (sn.c.toNat : Int))).setCell ⟨nh, 3, none⟩ (.int .u32 (sn.d.toNat : Int))).setCell ⟨nh, 4, none⟩ (.int .u32 (sn.e.toNat : Int))).setCell ⟨nh, 5, none⟩ (.int .u32 (sn.f.toNat : Int))).setCell ⟨nh, 6, none⟩ (.int .u32 (sn.g.toNat : Int))).setCell ⟨nh, 7, none⟩ (.int .u32 (sn.h.toNat : Int))) := rfl
              rw [eN] at u9
              have r10 := u9.here
              rw [Array.toArray_toList] at r10
              have g10 := (u9.off n₀ (by omega)).trans g9
              have B10 := u9.below B9 (by omega)
              have o10 := upd_owns u9 r9 (by decide) o9
              replace r10 := hid r10
              replace g10 := hid g10
              replace B10 := hid B10
              replace o10 := hid o10
              clear u9 eN g9 o9 B9 k9 b9 rG rH rO rB cT
              first | refine hK _ _ ?_ | refine ⟨trivial, hK _ _ ?_⟩ | refine ⟨fun _ _ => trivial, hK _ _ ?_⟩
              clear hK K
              refine wpAny_ready (rs := [7]) (by kernel_rfl) (by simp) ?_
              refine AllReady.cons rfl (fun K hK => ?_) AllReady.nil
              go_simp
              first | refine hK _ _ ?_ | refine ⟨trivial, hK _ _ ?_⟩ | refine ⟨fun _ _ => trivial, hK _ _ ?_⟩
              clear hK K
              refine wpAny_done (by kernel_rfl) ?_ _
              go_wp2_with (fail)
              refine ⟨?_, ?_⟩
              · first | exact ⟨j + 1, J + 64, by omega, by rw [hJ.out]; omega, by rw [hE.out], by rw [hnx.out]; exact r10.out, o10.out, g10.out, B10.out⟩ | ((repeat apply Exists.intro); refine ⟨?_, rfl⟩; exact ⟨j + 1, J + 64, by omega, by rw [hJ.out]; omega, by rw [hE.out], by rw [hnx.out]; exact r10.out, o10.out, g10.out, B10.out⟩)
              · simp [RowKit.intOf]; omega
            · obtain rfl : j = R := by omega
              obtain rfl : J = Q := by omega
              replace hJ := hid hJ
              obtain ⟨s9, hs9⟩ : ∃ s, sumH m j = s := ⟨_, rfl⟩
              rw [hs9] at rH
              have hres : shaS bl = outB s9 32 := by
                unfold shaS
                rw [← hpl.out, hmQ.out, hQR, Nat.mul_div_cancel_left _ (by decide), hs9]
              replace hres := hid hres
              have c0 : wr.cell? ⟨nh, 0, none⟩ = some (.int .u32 (s9.a.toNat : Int)) := cell_blk (i := 0) rH rfl
              have c1 : wr.cell? ⟨nh, 1, none⟩ = some (.int .u32 (s9.b.toNat : Int)) := cell_blk (i := 1) rH rfl
              have c2 : wr.cell? ⟨nh, 2, none⟩ = some (.int .u32 (s9.c.toNat : Int)) := cell_blk (i := 2) rH rfl
              have c3 : wr.cell? ⟨nh, 3, none⟩ = some (.int .u32 (s9.d.toNat : Int)) := cell_blk (i := 3) rH rfl
              have c4 : wr.cell? ⟨nh, 4, none⟩ = some (.int .u32 (s9.e.toNat : Int)) := cell_blk (i := 4) rH rfl
              have c5 : wr.cell? ⟨nh, 5, none⟩ = some (.int .u32 (s9.f.toNat : Int)) := cell_blk (i := 5) rH rfl
              have c6 : wr.cell? ⟨nh, 6, none⟩ = some (.int .u32 (s9.g.toNat : Int)) := cell_blk (i := 6) rH rfl
              have c7 : wr.cell? ⟨nh, 7, none⟩ = some (.int .u32 (s9.h.toNat : Int)) := cell_blk (i := 7) rH rfl
              obtain ⟨nd, hnd⟩ : ∃ n, wr.heap.size = n := ⟨_, rfl⟩
              have hnd2 : n₀ < nd := by have := (Array.getElem?_eq_some_iff.1 rG).1; omega
              have d1 := World.alloc_heap_new wr (.cells #[.int .u8 0, .int .u8 0, .int .u8 0, .int .u8 0, .int .u8 0, .int .u8 0, .int .u8 0, .int .u8 0, .int .u8 0, .int .u8 0, .int .u8 0, .int .u8 0, .int .u8 0, .int .u8 0, .int .u8 0, .int .u8 0, .int .u8 0, .int .u8 0, .int .u8 0, .int .u8 0, .int .u8 0, .int .u8 0, .int .u8 0, .int .u8 0, .int .u8 0, .int .u8 0, .int .u8 0, .int .u8 0, .int .u8 0, .int .u8 0, .int .u8 0, .int .u8 0] 46)
              rw [hnd] at d1
              have d2 : (wr.alloc (.cells #[.int .u8 0, .int .u8 0, .int .u8 0, .int .u8 0, .int .u8 0, .int .u8 0, .int .u8 0, .int .u8 0, .int .u8 0, .int .u8 0, .int .u8 0, .int .u8 0, .int .u8 0, .int .u8 0, .int .u8 0, .int .u8 0, .int .u8 0, .int .u8 0, .int .u8 0, .int .u8 0, .int .u8 0, .int .u8 0, .int .u8 0, .int .u8 0, .int .u8 0, .int .u8 0, .int .u8 0, .int .u8 0, .int .u8 0, .int .u8 0, .int .u8 0, .int .u8 0] 46)).heap[nd]? = some (.cells (rowU (outB s9 (4 * 0))) 46 (0, 0)) := by rw [← zero32_is s9]; exact d1
              have d0 := (Kept.alloc 0 wr (.cells #[.int .u8 0, .int .u8 0, .int .u8 0, .int .u8 0, .int .u8 0, .int .u8 0, .int .u8 0, .int .u8 0, .int .u8 0, .int .u8 0, .int .u8 0, .int .u8 0, .int .u8 0, .int .u8 0, .int .u8 0, .int .u8 0, .int .u8 0, .int .u8 0, .int .u8 0, .int .u8 0, .int .u8 0, .int .u8 0, .int .u8 0, .int .u8 0, .int .u8 0, .int .u8 0, .int .u8 0, .int .u8 0, .int .u8 0, .int .u8 0, .int .u8 0, .int .u8 0] 46)).same _ _ rG (.inl rfl)
              have dB := rB.alloc (by have := rB.size; omega) (.cells #[.int .u8 0, .int .u8 0, .int .u8 0, .int .u8 0, .int .u8 0, .int .u8 0, .int .u8 0, .int .u8 0, .int .u8 0, .int .u8 0, .int .u8 0, .int .u8 0, .int .u8 0, .int .u8 0, .int .u8 0, .int .u8 0, .int .u8 0, .int .u8 0, .int .u8 0, .int .u8 0, .int .u8 0, .int .u8 0, .int .u8 0, .int .u8 0, .int .u8 0, .int .u8 0, .int .u8 0, .int .u8 0, .int .u8 0, .int .u8 0, .int .u8 0, .int .u8 0] 46)
              have c0' := fun (k : Nat) (x : Value) (h : wr.cell? ⟨nh, k, none⟩ = some x) => (Kept.alloc 0 wr (.cells #[.int .u8 0, .int .u8 0, .int .u8 0, .int .u8 0, .int .u8 0, .int .u8 0, .int .u8 0, .int .u8 0, .int .u8 0, .int .u8 0, .int .u8 0, .int .u8 0, .int .u8 0, .int .u8 0, .int .u8 0, .int .u8 0, .int .u8 0, .int .u8 0, .int .u8 0, .int .u8 0, .int .u8 0, .int .u8 0, .int .u8 0, .int .u8 0, .int .u8 0, .int .u8 0, .int .u8 0, .int .u8 0, .int .u8 0, .int .u8 0, .int .u8 0, .int .u8 0] 46)).cell h
              replace c0 := c0' _ _ c0
              replace c1 := c0' _ _ c1
              replace c2 := c0' _ _ c2
              replace c3 := c0' _ _ c3
              replace c4 := c0' _ _ c4
              replace c5 := c0' _ _ c5
              replace c6 := c0' _ _ c6
              replace c7 := c0' _ _ c7
              clear rH rO rG rB d1 hs9 c0' hQR
              go_wp2_with (fail)
              go_loopw [54] (fun iv wr => ∃ i : Nat, i ≤ 8 ∧ iv = .int .i64 i ∧ wr.heap[nd]? = some (.cells (rowU (outB s9 (4 * i))) 46 (0, 0)) ∧ wr.heap[n₀]? = some (.cells #[.int .u8 0, .int .u8 0, .int .u8 0, .int .u8 0, .int .u8 0, .int .u8 0, .int .u8 0, .int .u8 0, .int .u8 0, .int .u8 0, .int .u8 0, .int .u8 0, .int .u8 0, .int .u8 0, .int .u8 0, .int .u8 0, .int .u8 0, .int .u8 0, .int .u8 0, .int .u8 0, .int .u8 0, .int .u8 0, .int .u8 0, .int .u8 0, .int .u8 0, .int .u8 0, .int .u8 0, .int .u8 0, .int .u8 0, .int .u8 0, .int .u8 0, .int .u8 0] 46 (0, 0)) ∧ Below n₀ w wr) (fun iv _ => 8 - (RowKit.intOf iv).toNat)
              case atStart => exact ⟨0, Nat.zero_le _, rfl, d2, d0, dB⟩
              case round =>
                obtain ⟨i, hi8, rfl, e2, e0, eB⟩ := hrel
                clear d2 d0 dB c0 c1 c2 c3 c4 c5 c6 c7
                by_cases hilt : i < 8
                · have hiI : (i : Int) < 8 := by omega
                  obtain ⟨x, hx⟩ : ∃ x, s9.l[i]? = some x := ⟨_, List.getElem?_eq_getElem (show i < 8 from hilt)⟩
                  have hxi : s9.l.getD i 0 = x := by rw [List.getD_eq_getElem?_getD, hx]; rfl
                  have hix := fun W => run_index8 s9 i x W hilt hx
                  have hw4 : IntKind.i64.wrap (4 * (i : Int)) = 4 * (i : Int) := by rw [IntKind.wrap_i64]; omega
                  clear hx
                  replace hxi := hid hxi
                  go_wp2_with (fail)
                  go_loopw [58] (fun kv wr => ∃ k : Nat, k ≤ 4 ∧ kv = .int .i64 k ∧ wr.heap[nd]? = some (.cells (rowU (outB s9 (4 * i + k))) 46 (0, 0)) ∧ wr.heap[n₀]? = some (.cells #[.int .u8 0, .int .u8 0, .int .u8 0, .int .u8 0, .int .u8 0, .int .u8 0, .int .u8 0, .int .u8 0, .int .u8 0, .int .u8 0, .int .u8 0, .int .u8 0, .int .u8 0, .int .u8 0, .int .u8 0, .int .u8 0, .int .u8 0, .int .u8 0, .int .u8 0, .int .u8 0, .int .u8 0, .int .u8 0, .int .u8 0, .int .u8 0, .int .u8 0, .int .u8 0, .int .u8 0, .int .u8 0, .int .u8 0, .int .u8 0, .int .u8 0, .int .u8 0] 46 (0, 0)) ∧ Below n₀ w wr) (fun kv _ => 4 - (RowKit.intOf kv).toNat)
                  case atStart => exact ⟨0, Nat.zero_le _, rfl, e2, e0, eB⟩
                  case round =>
                    obtain ⟨k, hk4, rfl, q2, q0, qB⟩ := hrel
                    clear e2 e0 eB
                    replace hxi := hxi.out
                    by_cases hklt : k < 4
                    · have h7 : k = 0 ∨ k = 1 ∨ k = 2 ∨ k = 3 := by omega
                      obtain ⟨X, hX⟩ : ∃ X, 4 * i + k = X := ⟨_, rfl⟩
                      rw [hX] at q2
                      have hX3 : (X : Int) < 32 := by omega
                      obtain ⟨b, hbx⟩ : ∃ b, (outB s9 X)[X]? = some b := ⟨_, List.getElem?_eq_getElem (by rw [outB_len]; omega)⟩
                      have cb : wr.cell? ⟨nd, X, none⟩ = some (.int .u8 b.toNat) := cell_blk q2 (rowU_at hbx)
                      have fb := frozen_blk q2 (i := X)
                      clear hbx
                      rcases h7 with rfl | rfl | rfl | rfl
                      · obtain rfl : X = 4 * i := by omega
                        have hX4 : 4 * (i : Int) < 32 := by omega
                        have hb1 : ((x.toNat : Int) / 16777216) % 256 = ((byteW x 0).toNat : Int) := by
                          unfold byteW; rw [UInt8.toNat_ofNat']; have := x.isLt; omega
                        have hb2 : (x.toNat : Int) / 16777216 = ((byteW x 0).toNat : Int) := by
                          unfold byteW; rw [UInt8.toNat_ofNat']; have := x.isLt; omega
                        have q3 := setCell_blk (i := (4 * i)) (x := .int .u8 ((byteW x 0).toNat : Int)) q2
                        rw [rowU_set] at q3
                        have hset : (outB s9 (4 * i)).set (4 * i) (byteW x 0) = outB s9 (4 * i + 1) := by
                          have h9 := outB_set s9 (4 * i) (by omega)
                          rw [show (4 * i) / 4 = i by omega, show (4 * i) % 4 = 0 by omega, hxi] at h9
                          rw [h9, show (4 * i) + 1 = 4 * i + 1 by omega]
                        rw [hset] at q3
                        have q0' := (setCell_off (b := nd) (i := (4 * i)) (x := .int .u8 ((byteW x 0).toNat : Int)) (show n₀ ≠ nd by omega)).trans q0
                        have qB' := qB.setCell (p := ⟨nd, (4 * i), none⟩) (show n₀ ≤ nd by omega) (.int .u8 ((byteW x 0).toNat : Int))
                        clear hset q2 q0 qB
                        try replace hX := hid hX
                        replace hxi := hid hxi
                        go_wp2_with (fail)
                        refine ⟨?_, ?_⟩
                        · first | exact ⟨1, by omega, rfl, q3, q0', qB'⟩ | ((repeat apply Exists.intro); refine ⟨?_, rfl⟩; exact ⟨1, by omega, rfl, q3, q0', qB'⟩)
                        · simp [RowKit.intOf]
                      · have hXw : IntKind.i64.wrap (4 * (i : Int) + 1) = (X : Int) := by rw [IntKind.wrap_i64]; omega
                        have hb1 : ((x.toNat : Int) / 65536) % 256 = ((byteW x 1).toNat : Int) := by
                          unfold byteW; rw [UInt8.toNat_ofNat']; have := x.isLt; omega
                        have q3 := setCell_blk (i := X) (x := .int .u8 ((byteW x 1).toNat : Int)) q2
                        rw [rowU_set] at q3
                        have hset : (outB s9 X).set X (byteW x 1) = outB s9 (4 * i + 2) := by
                          have h9 := outB_set s9 X (by omega)
                          rw [show X / 4 = i by omega, show X % 4 = 1 by omega, hxi] at h9
                          rw [h9, show X + 1 = 4 * i + 2 by omega]
                        rw [hset] at q3
                        have q0' := (setCell_off (b := nd) (i := X) (x := .int .u8 ((byteW x 1).toNat : Int)) (show n₀ ≠ nd by omega)).trans q0
                        have qB' := qB.setCell (p := ⟨nd, X, none⟩) (show n₀ ≤ nd by omega) (.int .u8 ((byteW x 1).toNat : Int))
                        clear hset q2 q0 qB
                        try replace hX := hid hX
                        replace hxi := hid hxi
                        go_wp2_with (fail)
                        refine ⟨?_, ?_⟩
                        · first | exact ⟨2, by omega, rfl, q3, q0', qB'⟩ | ((repeat apply Exists.intro); refine ⟨?_, rfl⟩; exact ⟨2, by omega, rfl, q3, q0', qB'⟩)
                        · simp [RowKit.intOf]
                      · have hXw : IntKind.i64.wrap (4 * (i : Int) + 2) = (X : Int) := by rw [IntKind.wrap_i64]; omega
                        have hb1 : ((x.toNat : Int) / 256) % 256 = ((byteW x 2).toNat : Int) := by
                          unfold byteW; rw [UInt8.toNat_ofNat']; have := x.isLt; omega
                        have q3 := setCell_blk (i := X) (x := .int .u8 ((byteW x 2).toNat : Int)) q2
                        rw [rowU_set] at q3
                        have hset : (outB s9 X).set X (byteW x 2) = outB s9 (4 * i + 3) := by
                          have h9 := outB_set s9 X (by omega)
                          rw [show X / 4 = i by omega, show X % 4 = 2 by omega, hxi] at h9
                          rw [h9, show X + 1 = 4 * i + 3 by omega]
                        rw [hset] at q3
                        have q0' := (setCell_off (b := nd) (i := X) (x := .int .u8 ((byteW x 2).toNat : Int)) (show n₀ ≠ nd by omega)).trans q0
                        have qB' := qB.setCell (p := ⟨nd, X, none⟩) (show n₀ ≤ nd by omega) (.int .u8 ((byteW x 2).toNat : Int))
                        clear hset q2 q0 qB
                        try replace hX := hid hX
                        replace hxi := hid hxi
                        go_wp2_with (fail)
                        refine ⟨?_, ?_⟩
                        · first | exact ⟨3, by omega, rfl, q3, q0', qB'⟩ | ((repeat apply Exists.intro); refine ⟨?_, rfl⟩; exact ⟨3, by omega, rfl, q3, q0', qB'⟩)
                        · simp [RowKit.intOf]
                      · have hXw : IntKind.i64.wrap (4 * (i : Int) + 3) = (X : Int) := by rw [IntKind.wrap_i64]; omega
                        have hb1 : ((x.toNat : Int)) % 256 = ((byteW x 3).toNat : Int) := by
                          unfold byteW; rw [UInt8.toNat_ofNat']; have := x.isLt; omega
                        have q3 := setCell_blk (i := X) (x := .int .u8 ((byteW x 3).toNat : Int)) q2
                        rw [rowU_set] at q3
                        have hset : (outB s9 X).set X (byteW x 3) = outB s9 (4 * i + 4) := by
                          have h9 := outB_set s9 X (by omega)
                          rw [show X / 4 = i by omega, show X % 4 = 3 by omega, hxi] at h9
                          rw [h9, show X + 1 = 4 * i + 4 by omega]
                        rw [hset] at q3
                        have q0' := (setCell_off (b := nd) (i := X) (x := .int .u8 ((byteW x 3).toNat : Int)) (show n₀ ≠ nd by omega)).trans q0
                        have qB' := qB.setCell (p := ⟨nd, X, none⟩) (show n₀ ≤ nd by omega) (.int .u8 ((byteW x 3).toNat : Int))
                        clear hset q2 q0 qB
                        try replace hX := hid hX
                        replace hxi := hid hxi
                        go_wp2_with (fail)
                        refine ⟨?_, ?_⟩
                        · first | exact ⟨4, by omega, rfl, q3, q0', qB'⟩ | ((repeat apply Exists.intro); refine ⟨?_, rfl⟩; exact ⟨4, by omega, rfl, q3, q0', qB'⟩)
                        · simp [RowKit.intOf]
                    · obtain rfl : k = 4 := by omega
                      go_wp2_with (fail)
                      refine ⟨?_, ?_⟩
                      · first | exact ⟨i + 1, by omega, by go_num, by rw [show 4 * (i + 1) = 4 * i + 4 by omega]; exact q2, q0, qB⟩ | ((repeat apply Exists.intro); refine ⟨?_, rfl⟩; exact ⟨i + 1, by omega, by go_num, by rw [show 4 * (i + 1) = 4 * i + 4 by omega]; exact q2, q0, qB⟩)
                      · simp [RowKit.intOf]; omega
                · obtain rfl : i = 8 := by omega
                  obtain ⟨OB, hOB⟩ : ∃ l, outB s9 32 = l := ⟨_, rfl⟩
                  have hO3 : OB.length = 32 := by rw [← hOB, outB_len]
                  have e2' : wr.heap[nd]? = some (.cells (rowU OB) 46 (0, 0)) := by rw [← hOB]; exact e2
                  have hg := range_blk (cs := OB.map fun b => Value.int .u8 b.toNat) e2'
                  have hi6 : (Try.prog.info? 46).map (·.size) = some (OB.map fun b => Value.int .u8 (b.toNat : Int)).length := by rw [List.length_map, hO3]; kernel_rfl
                  have hi7 : (Try.prog.info? 46).map (·.size) = some (rowU OB).size := by rw [rowU_size, hO3]; kernel_rfl
                  have ht7 : wr.there n₀ 0 (rowU OB).size := there_blk e0 (by rw [rowU_size, hO3]; rfl)
                  have u1 := (Upd.refl e0).setCells (rowU OB).toList (by rw [Array.length_toList, rowU_size, hO3]; rfl)
                  have BZ := u1.below eB (Nat.le_refl _)
                  rw [hOB] at hres
                  clear e2 e2' hOB
                  go_upto_region 25 with (fail)
                  refine wp_region_list ?_
                  refine wpList_load_mid rfl 46 _ rfl nd 0 rfl (OB.map fun b => Value.int .u8 b.toNat) _ hg Try.underlying46 rfl hi6 ?_
                  refine wpList_store_mid rfl 46 _ _ rfl n₀ 0 (rowU OB) rfl rfl ht7 hi7 (one_rowU _) ?_
                  obtain ⟨W9, hW9⟩ : ∃ W : World, W = wr.setCells n₀ 0 (rowU OB).toList := ⟨_, rfl⟩
                  rw [← hW9] at u1 BZ ⊢
                  clear hW9
                  refine wpList_nil ?_
                  go_wp2_with (fail)
                  have u2 : W9.heap[n₀]? = some (.cells (rowU OB) 46 (0, 0)) := by have h9 := u1.here; rw [Array.toArray_toList] at h9; exact h9
                  exact outRow (ty := 46) rfl u2 rfl rfl (by kernel_rfl) hi7 ⟨by rw [hres.out], hn₀ ▸ BZ⟩
end Go.Proofs.Ytomgjapjeckokaa
