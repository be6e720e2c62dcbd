/- The walk of leaf's sealed (printed by gen_ixi.py). -/
import Derived.Test.YtomgjapjeckokaaIxH
import Derived.Deep.DeepCutAuto
namespace Go.Proofs.Ytomgjapjeckokaa
open Go.RowKit Go.Shelf Go.Lib

section
variable {P : Program}
theorem wp_append_sl {α : Type} {w : World} {o : Oper} {a : Act} {K : Act → World → Prop} {Q : Exit → Act → World → Prop}
    (s x : Operand) (t : TypeId) (hop : o.op = Op.call { callee := Callee.builtin Builtin.append, args := #[s, x], argTypes := #[t, t] })
    (base : Nat) (e : TypeId) (i : TypeInfo) (z : Value) (size bytes : Nat) (h1 : P.underlying t = some (.slice e)) (h2 : P.info? e = some i) (h3 : i.zero = some z) (h4 : i.size = size) (h5 : i.bytes = bytes) (h6 : z.cells.size = size) (h7 : 0 < size)
    (v : Value) (k : Nat) (xs : List Value) (hs : a.eval s = v) (hown : w.ownsRow base e size v k xs)
    (enc : α → List Value) (vx : Value) (l : List α) (hx : a.eval x = vx) (hsl : Sl w size enc vx l) (he : ∀ x ∈ l, (enc x).length = size ∧ ∀ u ∈ enc x, u.oneCell' = true)
    (b1 : k + l.length ≤ maxLen) (b2 : (k + l.length) * bytes ≤ 140737488355328) (b3 : base ≤ w.heap.size)
    (hK : ∀ v' w', w'.ownsRow base e size v' (k + l.length) (xs ++ l.flatMap enc) → w.grownBy w' v.ownBlock → (v' = .slice none 0 0 ↔ v = .slice none 0 0 ∧ l = []) → K (a.put o.dst v') w') :
    o.wp P a w K Q := by
  obtain ⟨v', w', hrun, r1, r2, r3⟩ := run_append_sl (P := P) w base t o.type e i z size bytes h1 h2 h3 h4 h5 h6 h7 v k xs hown enc vx l hsl he b1 b2 b3
  unfold Oper.wp
  simp [execOp, hop, resolve, invoke, builtin, hs, hx, hrun, Result.andThen]
  exact hK v' w' r1 r2 r3
end
/-- bytes, their check, zeros -/
def sealB (bl : List UInt8) : List UInt8 := bl ++ chkS bl ++ List.replicate (124 - bl.length) 0
theorem flatU_len (l : List UInt8) : (l.flatMap encU).length = l.length := by
  induction l with
  | nil => rfl
  | cons a r ih => rw [List.flatMap_cons, List.length_append, ih, List.length_cons]; simp [encU]; omega
theorem flatU_one {l : List UInt8} {v : Value} (h : v ∈ l.flatMap encU) : v.oneCell' = true := by
  obtain ⟨x, -, hx⟩ := List.mem_flatMap.1 h
  obtain rfl : v = .int .u8 x.toNat := by simpa [encU] using hx
  rfl
theorem flatU_map (l : List UInt8) : l.flatMap encU = l.map fun b => Value.int .u8 b.toNat := by
  induction l with
  | nil => rfl
  | cons a r ih => rw [List.flatMap_cons, ih, List.map_cons]; rfl
theorem copy_src {w : World} {b o : Nat} {m : List UInt8} (hc : ∀ i x, m[i]? = some x → w.rangeAt b (o + i * 1) (encU x)) {j : Nat} {v : Value} (hj : (m.flatMap encU)[j]? = some v) : w.cell? ((⟨b, o, none⟩ : Addr).add j) = some v := by
  rw [Addr.add_mid]
  rw [flatU_map, List.getElem?_map] at hj
  obtain ⟨x, hx, rfl⟩ := Option.map_eq_some_iff.1 hj
  have := rangeAt_one (hc j x hx)
  rwa [Nat.mul_one] at this
theorem sl_row {W : World} {b : Nat} {a0 a1 a2 a3 : UInt8} {t : TypeId} {fr : Nat × Nat} (h : W.heap[b]? = some (.cells #[.int .u8 a0.toNat, .int .u8 a1.toNat, .int .u8 a2.toNat, .int .u8 a3.toNat] t fr)) : Sl W 1 encU (.slice (some ⟨b, 0, none⟩) 4 4) [a0, a1, a2, a3] := by
  refine Sl.mk (l := [a0, a1, a2, a3]) (cap := 4) (by simp) (by decide) fun i x hx => ?_
  match i, hx with
  | 0, hx => obtain rfl := Option.some.inj hx; exact fun j v hj => by match j, hj with | 0, hj => obtain rfl := Option.some.inj hj; exact cell_blk h rfl
  | 1, hx => obtain rfl := Option.some.inj hx; exact fun j v hj => by match j, hj with | 0, hj => obtain rfl := Option.some.inj hj; exact cell_blk h rfl
  | 2, hx => obtain rfl := Option.some.inj hx; exact fun j v hj => by match j, hj with | 0, hj => obtain rfl := Option.some.inj hj; exact cell_blk h rfl
  | 3, hx => obtain rfl := Option.some.inj hx; exact fun j v hj => by match j, hj with | 0, hj => obtain rfl := Option.some.inj hj; exact cell_blk h rfl
theorem zero128_is : Try.zeroCells43 = (List.replicate 128 (Value.int .u8 0)).toArray := by kernel_rfl
theorem zero128_split {n : Nat} (h : n ≤ 124) : (List.replicate (n + 4) (Value.int .u8 0) ++ List.replicate (124 - n) (Value.int .u8 0)).toArray = Try.zeroCells43 := by
  rw [zero128_is, List.replicate_append_replicate, show n + 4 + (124 - n) = 128 by omega]
theorem sealed_row (bl : List UInt8) (y0 y1 y2 y3 : UInt8) : ((bl ++ [y0, y1, y2, y3]).flatMap encU ++ List.replicate (124 - bl.length) (Value.int .u8 0)).toArray = rowU (bl ++ [y0, y1, y2, y3] ++ List.replicate (124 - bl.length) 0) := by
  unfold rowU
  rw [flatU_map]
  simp

set_option maxRecDepth 100000 in
set_option maxHeartbeats 1000000 in
theorem sealed_any (bl : List UInt8) (a : Addr) (n cap : Nat) (w : World) (hs : Sl w 1 encU (.slice (some a) n cap) bl) (hb : bl.length ≤ 124) :
    Calls Try.prog 45 #[.slice (some a) n cap] w fun e w' => e = .returned (.agg (rowU (sealB bl))) ∧ Below w.heap.size w w' := by
  obtain ⟨i0, hi, hz0, hz1, hz2⟩ := infoU8_parts
  obtain ⟨n₀, hn₀⟩ : ∃ n, w.heap.size = n := ⟨_, rfl⟩
  have g1 := World.alloc_heap_new w (.cells Try.zeroCells43 43)
  rw [hn₀] at g1
  have s1 := (Kept.alloc 0 w (.cells Try.zeroCells43 43)).sl hs
  have B1 : Below n₀ w (w.alloc (.cells Try.zeroCells43 43)) := by rw [← hn₀]; exact (Below.refl _ w).alloc (Nat.le_refl _) _
  go_enter Try.func45, Try.ntmps45
  go_upto_region 1 with (fail)
  obtain ⟨W1, hW1⟩ : ∃ W : World, W = w.alloc (.cells Try.zeroCells43 43) := ⟨_, rfl⟩
  rw [← hW1] at g1 s1 B1 ⊢
  clear hW1 hs
  have cK := hid (Check_any bl a n cap W1 s1 (by omega))
  obtain ⟨y0, y1, y2, y3, hy⟩ := rowU4 (chkS_len bl)
  rw [hy] at cK
  have hry : rowU [y0, y1, y2, y3] = #[.int .u8 (y0.toNat : Int), .int .u8 (y1.toNat : Int), .int .u8 (y2.toNat : Int), .int .u8 (y3.toNat : Int)] := rfl
  rw [hry] at cK
  clear hry
  have hseal : sealB bl = bl ++ [y0, y1, y2, y3] ++ List.replicate (124 - bl.length) 0 := by unfold sealB; rw [hy]
  replace hseal := hid hseal
  clear hy
  go_wp2_with (fail)
  refine cK.out.mono ?_
  rintro e w2 ⟨rfl, b2⟩
  have g2 := (Kept.of_below b2 0).same _ _ g1 (.inl rfl)
  have s2 := (Kept.of_below b2 0).sl s1
  have B2 := B1.trans (b2.mono (by have := B1.size; omega))
  obtain ⟨nc, hnc⟩ : ∃ n, w2.heap.size = n := ⟨_, rfl⟩
  have hnc2 : n₀ < nc := by have := (Array.getElem?_eq_some_iff.1 g2).1; omega
  have c2 := World.alloc_heap_new w2 (.cells #[.int .u8 (y0.toNat : Int), .int .u8 (y1.toNat : Int), .int .u8 (y2.toNat : Int), .int .u8 (y3.toNat : Int)] 96)
  rw [hnc] at c2
  have g2' := (Kept.alloc 0 w2 (.cells #[.int .u8 (y0.toNat : Int), .int .u8 (y1.toNat : Int), .int .u8 (y2.toNat : Int), .int .u8 (y3.toNat : Int)] 96)).same _ _ g2 (.inl rfl)
  have s2' := (Kept.alloc 0 w2 (.cells #[.int .u8 (y0.toNat : Int), .int .u8 (y1.toNat : Int), .int .u8 (y2.toNat : Int), .int .u8 (y3.toNat : Int)] 96)).sl s2
  have B2' := B2.alloc (by have := B2.size; omega) (.cells #[.int .u8 (y0.toNat : Int), .int .u8 (y1.toNat : Int), .int .u8 (y2.toNat : Int), .int .u8 (y3.toNat : Int)] 96)
  have hz' : (w2.alloc (.cells #[.int .u8 (y0.toNat : Int), .int .u8 (y1.toNat : Int), .int .u8 (y2.toNat : Int), .int .u8 (y3.toNat : Int)] 96)).heap.size = nc + 1 := by rw [World.size_alloc, hnc]
  obtain ⟨nb, hnb⟩ : ∃ n, nc + 1 = n := ⟨_, rfl⟩
  have r3 := World.alloc_heap_new (w2.alloc (.cells #[.int .u8 (y0.toNat : Int), .int .u8 (y1.toNat : Int), .int .u8 (y2.toNat : Int), .int .u8 (y3.toNat : Int)] 96)) (.cells Try.zeroCells43 43)
  rw [hz', hnb] at r3
  have c3 := (Kept.alloc 0 (w2.alloc (.cells #[.int .u8 (y0.toNat : Int), .int .u8 (y1.toNat : Int), .int .u8 (y2.toNat : Int), .int .u8 (y3.toNat : Int)] 96)) (.cells Try.zeroCells43 43)).same _ _ c2 (.inl rfl)
  have g3 := (Kept.alloc 0 (w2.alloc (.cells #[.int .u8 (y0.toNat : Int), .int .u8 (y1.toNat : Int), .int .u8 (y2.toNat : Int), .int .u8 (y3.toNat : Int)] 96)) (.cells Try.zeroCells43 43)).same _ _ g2' (.inl rfl)
  have s3 := (Kept.alloc 0 (w2.alloc (.cells #[.int .u8 (y0.toNat : Int), .int .u8 (y1.toNat : Int), .int .u8 (y2.toNat : Int), .int .u8 (y3.toNat : Int)] 96)) (.cells Try.zeroCells43 43)).sl s2'
  have B3 := B2'.alloc (by have := B2'.size; omega) (.cells Try.zeroCells43 43)
  clear cK g1 s1 B1 b2 g2 s2 B2 c2 g2' s2' B2'
  go_upto_region 3 with (fail)
  obtain ⟨W3, hW3⟩ : ∃ W : World, W = (w2.alloc (.cells #[.int .u8 (y0.toNat : Int), .int .u8 (y1.toNat : Int), .int .u8 (y2.toNat : Int), .int .u8 (y3.toNat : Int)] 96)).alloc (.cells Try.zeroCells43 43) := ⟨_, rfl⟩
  rw [← hW3] at r3 c3 g3 s3 B3
  rw [← hW3]
  clear hW3
  have cC := hid (sclone_any bl a n cap W3.drew ((Kept.drewN 0 W3 1).sl s3) (by omega))
  refine wp_region_any (by kernel_rfl) ?_
  try (change wpAny _ _ _ _ _ _ _ (World.drew _))
  refine wpAny_take (i := 0) (oi := ⟨some 7, _, _, _, _, _⟩) (v := ?_) rfl (by kernel_rfl) (by kernel_rfl) (by kernel_rfl) (fun _ _ _ h => h) (Or.inl ⟨by rfl, ?_⟩) ?_
  rotate_left
  · intro w; go_simp <;> with_reducible rfl
  simp only [Act.put, List.setIfInBounds_toArray, List.set_cons_zero, List.set_cons_succ]
  refine wpAny_take (i := 1) (oi := ⟨some 8, _, _, _, _, _⟩) (v := ?_) rfl (by kernel_rfl) (by kernel_rfl) (by kernel_rfl) (fun _ _ _ h => h) (Or.inl ⟨by rfl, ?_⟩) ?_
  rotate_left
  · intro w; go_simp <;> with_reducible rfl
  simp only [Act.put, List.setIfInBounds_toArray, List.set_cons_zero, List.set_cons_succ]
  refine wpAny_take (i := 3) (oi := ⟨some 10, _, _, _, _, _⟩) (v := ?_) rfl (by kernel_rfl) (by kernel_rfl) (by kernel_rfl) (fun _ _ _ h => h) (Or.inl ⟨by rfl, ?_⟩) ?_
  rotate_left
  · intro w; go_simp <;> with_reducible rfl
  simp only [Act.put, List.setIfInBounds_toArray, List.set_cons_zero, List.set_cons_succ]
  refine wpAny_ready (rs := [2]) (by kernel_rfl) (by simp) ?_
  refine AllReady.cons rfl (fun K hK => ?_) AllReady.nil
  go_simp
  refine cC.out.mono ?_
  rintro e w5 ⟨v5, rfl, o5, hn5, b5⟩
  have k5 := Kept.of_below b5 0
  have g5 := k5.same _ _ (show W3.drew.heap[n₀]? = _ from g3) (.inl rfl)
  have c5 := k5.same _ _ (show W3.drew.heap[nc]? = _ from c3) (.inl rfl)
  have r5 := k5.same _ _ (show W3.drew.heap[nb]? = _ from r3) (.inl rfl)
  have B5 := (B3.drewN 1).trans (b5.mono (by have h9 : W3.drew.heap.size = W3.heap.size := rfl; have := B3.size; omega))
  have hsl4 : Sl w5 1 encU (.slice (some ⟨nc, 0, none⟩) 4 4) [y0, y1, y2, y3] := sl_row c5
  first | refine hK _ _ ?_ | refine ⟨trivial, hK _ _ ?_⟩ | refine ⟨fun _ _ => trivial, hK _ _ ?_⟩
  clear hK K
  refine wpAny_ready (rs := [4]) (by kernel_rfl) (by simp) ?_
  refine BigFrame.allReady_want rfl (by rfl) (fun K hK => ?_) AllReady.nil
  refine wp_append_sl _ _ 54 rfl W3.drew.heap.size 5 i0 (.int .u8 0) 1 1 Try.underlying54 hi hz0 hz1 hz2 rfl (by decide) _ _ _ rfl o5 encU _ [y0, y1, y2, y3] rfl hsl4 (encU_enc _) (by unfold maxLen; simp only [List.length_cons, List.length_nil]; omega) (by simp only [List.length_cons, List.length_nil]; omega) b5.size (fun v6 w6 o6 g6 n6 => hK _ _ ?_)
  have q6 := grown_blkI o5 g6 (show n₀ < W3.drew.heap.size from (Array.getElem?_eq_some_iff.1 g3).1) g5
  have r6 := grown_blkI o5 g6 (show nb < W3.drew.heap.size from (Array.getElem?_eq_some_iff.1 r3).1) r5
  have B6 := B5.grown g6 (by have := B5.size; omega) (fun j e => by have h8 := own_baseI o5 e; have h9 : W3.drew.heap.size = W3.heap.size := rfl; have := B3.size; omega)
  have o6' : w6.ownsRow W3.drew.heap.size 5 1 v6 (bl ++ [y0, y1, y2, y3]).length ((bl ++ [y0, y1, y2, y3]).flatMap encU) := by rw [List.length_append, List.flatMap_append]; exact o6
  have s6 := sl_of_owns (enc := encU) (l := bl ++ [y0, y1, y2, y3]) (fun _ _ => rfl) o6'
  obtain ⟨b6, f6, cp6, rfl, h61, h62, h63⟩ := s6.open (by simp)
  have hz6 : (bl ++ [y0, y1, y2, y3]).length = bl.length + 4 := by simp
  clear hK K
  refine wpAny_ready (rs := [5]) (by kernel_rfl) (by simp) ?_
  refine BigFrame.allReady_want rfl (by rfl) (fun K hK => ?_) AllReady.nil
  refine wp_copy_cells _ _ 54 54 5 rfl nb 0 128 128 ⟨b6, f6, none⟩ _ cp6 ((bl ++ [y0, y1, y2, y3]).flatMap encU) rfl rfl Try.underlying54 (by kernel_rfl) (by rw [flatU_len, hz6]; exact (Nat.min_eq_left (by omega)).symm) (fun j v hj => copy_src h63 hj) (fun j hj => (there_blk r6 (show 128 = _ from rfl) j (by rw [flatU_len, hz6] at hj; omega)).1) (fun j hj => (there_blk r6 (show 128 = _ from rfl) j (by rw [flatU_len, hz6] at hj; omega)).2) (fun v hv => flatU_one hv) (hK _ _ ?_)
  clear hK K
  refine wpAny_done (by kernel_rfl) ?_ _
  have u7 := (Upd.refl (cs := (List.replicate (bl.length + 4) (Value.int .u8 0) ++ List.replicate (124 - bl.length) (Value.int .u8 0)).toArray) (by rw [zero128_split (by omega)]; exact r6)).setPart ((bl ++ [y0, y1, y2, y3]).flatMap encU) (by rw [flatU_len, hz6, List.length_replicate])
  have hrow := sealed_row bl y0 y1 y2 y3
  rw [hrow] at u7
  have q7 := (u7.off n₀ (by omega)).trans q6
  have B7 := u7.below B6 (by omega)
  have r7 := u7.here
  obtain ⟨W7, hW7⟩ : ∃ W : World, W = w6.setCells nb 0 ((bl ++ [y0, y1, y2, y3]).flatMap encU) := ⟨_, rfl⟩
  rw [← hW7] at q7 B7 r7 ⊢
  clear hW7 u7 hrow B6 q6 r6 o6 o6' s6 h63 g6 n6 o5 g5 c5 r5 B5 k5 b5 hsl4
  obtain ⟨OB, hOB⟩ : ∃ l, bl ++ [y0, y1, y2, y3] ++ List.replicate (124 - bl.length) (0 : UInt8) = l := ⟨_, rfl⟩
  have hO3 : OB.length = 128 := by rw [← hOB]; simp; omega
  rw [hOB] at hseal r7
  clear hOB
  have hg := range_blk (cs := OB.map fun b => Value.int .u8 b.toNat) r7
  have hi6 : (Try.prog.info? 43).map (·.size) = some (OB.map fun b => Value.int .u8 (b.toNat : Int)).length := by rw [List.length_map, hO3]; kernel_rfl
  have hi7 : (Try.prog.info? 43).map (·.size) = some (rowU OB).size := by rw [rowU_size, hO3]; kernel_rfl
  have ht7 : W7.there n₀ 0 (rowU OB).size := there_blk q7 (by rw [rowU_size, hO3]; kernel_rfl)
  have u8 := (Upd.refl q7).setCells (rowU OB).toList (by rw [Array.length_toList, rowU_size, hO3]; kernel_rfl)
  have BZ := u8.below B7 (Nat.le_refl _)
  go_upto_region 4 with (fail)
  refine wp_region_list ?_
  refine wpList_load_mid rfl 43 _ rfl nb 0 rfl (OB.map fun b => Value.int .u8 b.toNat) _ hg Try.underlying43 rfl hi6 ?_
  refine wpList_store_mid rfl 43 _ _ rfl n₀ 0 (rowU OB) rfl rfl ht7 hi7 (one_rowU _) ?_
  obtain ⟨W9, hW9⟩ : ∃ W : World, W = W7.setCells n₀ 0 (rowU OB).toList := ⟨_, rfl⟩
  rw [← hW9] at u8 BZ ⊢
  clear hW9
  refine wpList_nil ?_
  go_wp2_with (fail)
  have u2 : W9.heap[n₀]? = some (.cells (rowU OB) 43 (0, 0)) := by have h9 := u8.here; rw [Array.toArray_toList] at h9; exact h9
  exact outRow (ty := 43) rfl u2 rfl rfl (by kernel_rfl) hi7 ⟨by rw [hseal.out], hn₀ ▸ BZ⟩
end Go.Proofs.Ytomgjapjeckokaa
