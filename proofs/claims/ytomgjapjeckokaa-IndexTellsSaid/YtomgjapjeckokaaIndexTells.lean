/- IndexTells: IzO, IzP, IzQ, IzR, IzS, IzT, IzW, IzU, Keep, IzV, IyV, IzI, IndexTells in one text. -/
import Derived.Test.YtomgjapjeckokaaSqz
import Derived.Test.YtomgjapjeckokaaJc
import Derived.Test.YtomgjapjeckokaaIxI
import Derived.Deep.RegionHeld3
import Derived.Test.YtomgjapjeckokaaJb
import Derived.Test.YtomgjapjeckokaaIyA
import Derived.Test.YtomgjapjeckokaaIyE
import Derived.Test.YtomgjapjeckokaaIyC
import Derived.Test.YtomgjapjeckokaaIyP
import Derived.Deep.DeepCutAuto
import Derived.Deep.CutBlock
import Derived.Test.YtomgjapjeckokaaIyM
import Derived.Test.YtomgjapjeckokaaRow
import Derived.Test.YtomgjapjeckokaaIyL
import Derived.Test.YtomgjapjeckokaaLib
import Derived.Test.YtomgjapjeckokaaJa
import Derived.Test.YtomgjapjeckokaaLaw
namespace Go.Proofs.Ytomgjapjeckokaa
open Go.RowKit Go.Shelf Go.Lib

theorem sl_bytes {W : World} {b n cap : Nat} {l : List UInt8} {t : TypeId} {fr : Nat × Nat} (h : W.heap[b]? = some (.cells (rowU l) t fr)) (hn : n ≤ l.length) (hc : l.length ≤ cap) (hm : cap ≤ maxLen) : Sl W 1 encU (.slice (some ⟨b, 0, none⟩) n cap) (l.take n) := by
  have hl : (l.take n).length = n := by rw [List.length_take]; omega
  have := Sl.mk (w := W) (k := 1) (enc := encU) (l := l.take n) (b := b) (o := 0) (cap := cap) (by rw [hl]; omega) hm fun i x hi => by
    rw [List.getElem?_take] at hi
    split at hi
    · intro j v hj
      match j, hj with
      | 0, hj =>
        obtain rfl := Option.some.inj hj
        have h9 := cell_blk (i := i) h (rowU_at hi)
        simpa using h9
    · cases hi
  rwa [hl] at this
set_option maxRecDepth 100000 in
set_option maxHeartbeats 2000000 in
theorem rCheck_any (bl : List UInt8) (v : Value) (w : World) (hs : Sl w 1 encU v bl) (hb : bl.length ≤ 100000) :
    Calls Try.prog 62 #[v] w fun e w' => ∃ v', e = .returned v' ∧ Below w.heap.size w w' ∧ w'.ownsRow w.heap.size 5 1 v' 4 ((chkS bl).flatMap encU) := by
  obtain ⟨i0, hi, hz0, hz1, hz2⟩ := infoU8_parts
  obtain ⟨n₀, hn₀⟩ : ∃ n, w.heap.size = n := ⟨_, rfl⟩
  have cS := hid (rSum_any bl v w hs hb)
  have B0 : Below n₀ w w := Below.refl _ w
  have hn1 : n₀ ≤ w.heap.size := by omega
  rw [hn₀]
  replace hn₀ := hid hn₀
  go_enter Try.func62, Try.ntmps62
  go_wp2_with (fail)
  refine cS.out.mono ?_
  rintro e w2 ⟨rfl, b2⟩
  have B2 := B0.trans (b2.mono hn1)
  obtain ⟨nd, hnd⟩ : ∃ n, w2.heap.size = n := ⟨_, rfl⟩
  have hnd2 : n₀ ≤ nd := by have := b2.size; omega
  have d1 := World.alloc_heap_new w2 (.cells #[.int .u8 0, .int .u8 0, .int .u8 0, .int .u8 0, .int .u8 0, .int .u8 0, .int .u8 0, .int .u8 0, .int .u8 0, .int .u8 0, .int .u8 0, .int .u8 0, .int .u8 0, .int .u8 0, .int .u8 0, .int .u8 0, .int .u8 0, .int .u8 0, .int .u8 0, .int .u8 0, .int .u8 0, .int .u8 0, .int .u8 0, .int .u8 0, .int .u8 0, .int .u8 0, .int .u8 0, .int .u8 0, .int .u8 0, .int .u8 0, .int .u8 0, .int .u8 0] 46)
  rw [hnd] at d1
  have B3 := B2.alloc (by omega) (.cells #[.int .u8 0, .int .u8 0, .int .u8 0, .int .u8 0, .int .u8 0, .int .u8 0, .int .u8 0, .int .u8 0, .int .u8 0, .int .u8 0, .int .u8 0, .int .u8 0, .int .u8 0, .int .u8 0, .int .u8 0, .int .u8 0, .int .u8 0, .int .u8 0, .int .u8 0, .int .u8 0, .int .u8 0, .int .u8 0, .int .u8 0, .int .u8 0, .int .u8 0, .int .u8 0, .int .u8 0, .int .u8 0, .int .u8 0, .int .u8 0, .int .u8 0, .int .u8 0] 46)
  have hz3 : (w2.alloc (.cells #[.int .u8 0, .int .u8 0, .int .u8 0, .int .u8 0, .int .u8 0, .int .u8 0, .int .u8 0, .int .u8 0, .int .u8 0, .int .u8 0, .int .u8 0, .int .u8 0, .int .u8 0, .int .u8 0, .int .u8 0, .int .u8 0, .int .u8 0, .int .u8 0, .int .u8 0, .int .u8 0, .int .u8 0, .int .u8 0, .int .u8 0, .int .u8 0, .int .u8 0, .int .u8 0, .int .u8 0, .int .u8 0, .int .u8 0, .int .u8 0, .int .u8 0, .int .u8 0] 46)).heap.size = nd + 1 := by rw [World.size_alloc, hnd]
  obtain ⟨OB, hOB⟩ : ∃ l, shaS bl = l := ⟨_, rfl⟩
  have hO3 : OB.length = 32 := by rw [← hOB, shaS_len]
  have hi7 : (Try.prog.info? 46).map (·.size) = some (rowU OB).size := by rw [rowU_size, hO3]; kernel_rfl
  have ht7 : (w2.alloc (.cells #[.int .u8 0, .int .u8 0, .int .u8 0, .int .u8 0, .int .u8 0, .int .u8 0, .int .u8 0, .int .u8 0, .int .u8 0, .int .u8 0, .int .u8 0, .int .u8 0, .int .u8 0, .int .u8 0, .int .u8 0, .int .u8 0, .int .u8 0, .int .u8 0, .int .u8 0, .int .u8 0, .int .u8 0, .int .u8 0, .int .u8 0, .int .u8 0, .int .u8 0, .int .u8 0, .int .u8 0, .int .u8 0, .int .u8 0, .int .u8 0, .int .u8 0, .int .u8 0] 46)).there nd 0 (rowU OB).size := there_blk d1 (by rw [rowU_size, hO3]; rfl)
  have u1 := (Upd.refl d1).setCells (rowU OB).toList (by rw [Array.length_toList, rowU_size, hO3]; rfl)
  have hch : chkS bl = OB.take 4 := by unfold chkS; rw [hOB]
  rw [hOB]
  clear cS B0 b2 B2 d1 hOB
  replace hch := hid hch
  go_upto_region 2 with (refine wpList_store_mid rfl 46 _ _ rfl nd 0 (rowU OB) rfl rfl ht7 hi7 (one_rowU _) ?_)
  try simp only [Act.put]
  obtain ⟨W3, hW3⟩ : ∃ W : World, W = (w2.alloc (.cells #[.int .u8 0, .int .u8 0, .int .u8 0, .int .u8 0, .int .u8 0, .int .u8 0, .int .u8 0, .int .u8 0, .int .u8 0, .int .u8 0, .int .u8 0, .int .u8 0, .int .u8 0, .int .u8 0, .int .u8 0, .int .u8 0, .int .u8 0, .int .u8 0, .int .u8 0, .int .u8 0, .int .u8 0, .int .u8 0, .int .u8 0, .int .u8 0, .int .u8 0, .int .u8 0, .int .u8 0, .int .u8 0, .int .u8 0, .int .u8 0, .int .u8 0, .int .u8 0] 46)).setCells nd 0 (rowU OB).toList := ⟨_, rfl⟩
  rw [← hW3] at u1 ⊢
  clear hW3
  have d2 : W3.heap[nd]? = some (.cells (rowU OB) 46 (0, 0)) := by have h9 := u1.here; rw [Array.toArray_toList] at h9; exact h9
  have B4 := u1.below B3 (by omega)
  have hz4 : W3.heap.size = nd + 1 := by rw [u1.size, hz3]
  have sA := sl_bytes (n := 4) (cap := 32) ((Kept.alloc 0 W3 (.cells #[] 5)).same _ _ d2 (.inl rfl)) (by omega) (by omega) (by unfold maxLen; omega)
  have BA := B4.alloc (by omega) (.cells #[] 5)
  have oA := World.ownsRow_made (base := n₀) (e := 5) (size := 1) W3 #[] 0 (by omega) (Nat.zero_le _) rfl
  have hl4 : (OB.take 4).length = 4 := by rw [List.length_take, hO3]; rfl
  have hzA : (W3.alloc (.cells #[] 5)).heap.size = nd + 2 := by rw [World.size_alloc, hz4]
  replace hzA := hid hzA
  replace hz4 := hid hz4
  clear d2 u1 B3 B4 ht7 hz3 hnd
  go_wp2_with (at_builtin; go_must (refine wpList_append_sl rfl _ _ 54 rfl n₀ 5 i0 (.int .u8 0) 1 1 Try.underlying54 hi hz0 hz1 hz2 rfl (by decide) _ _ _ rfl oA encU _ (OB.take 4) rfl sA (encU_enc _) (by unfold maxLen; rw [hl4]; omega) (by rw [hl4]; omega) (by rw [hzA.out]; omega) ?_; intro v5 w5 o5 hg5 n5))
  have B5 := BA.grown hg5 (by rw [hzA.out]; omega) (fun j e => by simp [Value.ownBlock, Act.eval] at e; have := hz4.out; omega)
  rw [hl4] at o5
  have o5' : w5.ownsRow n₀ 5 1 v5 4 ((OB.take 4).flatMap encU) := by simpa using o5
  go_ret
  exact ⟨_, rfl, B5, by rw [hch.out]; exact o5'⟩
theorem noB4 {W : World} {n : Nat} {base : Nat} {v : Value} {xs : List Value} {b : Nat} {cs : Array Value} {fr : Nat × Nat} (h : W.ownsRow base 5 1 v n xs) (hb : W.heap[b]? = some (.cells cs 43 fr)) (hv : v.ownBlock = some b) : False := by
  rcases h.2 with ⟨rfl, _⟩ | ⟨g, cap, cur, rfl, -, hg, -⟩
  · simp [Value.ownBlock] at hv
  · simp [Value.ownBlock] at hv
    subst hv
    rw [hb] at hg
    injection hg with hg
    injection hg with _ h2 _
    exact absurd h2 (by decide)
theorem seal_row (bl : List UInt8) : ((bl ++ chkS bl).flatMap encU ++ List.replicate (124 - bl.length) (Value.int .u8 0)).toArray = rowU (sealB bl) := by
  unfold rowU sealB
  rw [flatU_map]
  simp
set_option maxRecDepth 100000 in
set_option maxHeartbeats 2000000 in
theorem rBlock_any (bl : List UInt8) (v : Value) (w : World) (hs : Sl w 1 encU v bl) (hb : bl.length ≤ 124) :
    Calls Try.prog 48 #[v] w fun e w' => e = .returned (.agg (rowU (sealB bl))) ∧ Below w.heap.size w w' := by
  obtain ⟨i0, hi, hz0, hz1, hz2⟩ := infoU8_parts
  obtain ⟨n₀, hn₀⟩ : ∃ n, w.heap.size = n := ⟨_, rfl⟩
  obtain ⟨OB, hOB⟩ : ∃ l, sealB bl = l := ⟨_, rfl⟩
  have hO3 : OB.length = 128 := by rw [← hOB]; unfold sealB; simp [chkS_len]; omega
  rw [hOB]
  replace hOB := hid hOB
  obtain ⟨pb, cb, rfl, -⟩ := hs.shape
  have sB : ∀ W, Below n₀ w W → Sl W 1 encU (.slice pb bl.length cb) bl := fun W h => (Kept.of_below (hn₀ ▸ h : Below w.heap.size w W) 0).sl hs
  obtain ⟨nb, hnb⟩ : ∃ n, n₀ + 1 = n := ⟨_, rfl⟩
  have g1 := World.alloc_heap_new w (.cells Try.zeroCells43 43)
  rw [hn₀] at g1
  have hz : (w.alloc (.cells Try.zeroCells43 43)).heap.size = nb := by rw [World.size_alloc, hn₀, hnb]
  have q1 := (Kept.alloc 0 (w.alloc (.cells Try.zeroCells43 43)) (.cells Try.zeroCells43 43)).same _ _ g1 (.inl rfl)
  have r1 := World.alloc_heap_new (w.alloc (.cells Try.zeroCells43 43)) (.cells Try.zeroCells43 43)
  rw [hz] at r1
  have B1 : Below n₀ w ((w.alloc (.cells Try.zeroCells43 43)).alloc (.cells Try.zeroCells43 43)) := by rw [← hn₀]; exact ((Below.refl _ w).alloc (Nat.le_refl _) _).alloc (by omega) _
  have hz1' : ((w.alloc (.cells Try.zeroCells43 43)).alloc (.cells Try.zeroCells43 43)).heap.size = nb + 1 := by rw [World.size_alloc, hz]
  rw [hn₀]
  replace hn₀ := hid hn₀
  replace sB := hid sB
  clear hs g1 hz
  go_enter Try.func48, Try.ntmps48
  go_upto_region 2 with (fail)
  obtain ⟨W1, hW1⟩ : ∃ W : World, W = (w.alloc (.cells Try.zeroCells43 43)).alloc (.cells Try.zeroCells43 43) := ⟨_, rfl⟩
  rw [← hW1] at q1 r1 B1 hz1' ⊢
  clear hW1
  try simp only [hn₀.out, hnb]
  have BA : Below n₀ w (W1.alloc (.cells #[] 5)).drew := (B1.alloc (by omega) (.cells #[] 5)).drewN 1
  have sA := sB.out _ BA
  have qA : (W1.alloc (.cells #[] 5)).drew.heap[n₀]? = _ := (Kept.alloc 0 W1 (.cells #[] 5)).same _ _ q1 (.inl rfl)
  have rA : (W1.alloc (.cells #[] 5)).drew.heap[nb]? = _ := (Kept.alloc 0 W1 (.cells #[] 5)).same _ _ r1 (.inl rfl)
  have oA : (W1.alloc (.cells #[] 5)).drew.ownsRow n₀ 5 1 _ _ _ := (Kept.drewN 0 _ 1).owns (World.ownsRow_made (base := n₀) (e := 5) (size := 1) W1 #[] 0 (by omega) (Nat.zero_le _) rfl)
  have hzA : (W1.alloc (.cells #[] 5)).drew.heap.size = nb + 2 := by show (W1.alloc (.cells #[] 5)).heap.size = _; rw [World.size_alloc, hz1']
  replace hzA := hid hzA
  replace hz1' := hid hz1'
  clear B1
  refine wp_region_any (by kernel_rfl) ?_
  try (change wpAny _ _ _ _ _ _ _ (World.drew _))
  refine wpAny_take (i := 0) (oi := ⟨some 4, _, _, _, _, _⟩) (v := ?_) rfl (by kernel_rfl) (by kernel_rfl) (by kernel_rfl) (fun _ _ _ h => h) (Or.inl ⟨by rfl, ?_⟩) ?_
  rotate_left
  · intro w; go_simp <;> with_reducible rfl
  simp only [Act.put, List.setIfInBounds_toArray, List.set_cons_zero, List.set_cons_succ]
  refine wpAny_take (i := 2) (oi := ⟨some 6, _, _, _, _, _⟩) (v := ?_) rfl (by kernel_rfl) (by kernel_rfl) (by kernel_rfl) (fun _ _ _ h => h) (Or.inl ⟨by rfl, ?_⟩) ?_
  rotate_left
  · intro w; go_simp <;> with_reducible rfl
  simp only [Act.put, List.setIfInBounds_toArray, List.set_cons_zero, List.set_cons_succ]
  refine wpAny_take (i := 4) (oi := ⟨some 8, _, _, _, _, _⟩) (v := ?_) rfl (by kernel_rfl) (by kernel_rfl) (by kernel_rfl) (fun _ _ _ h => h) (Or.inl ⟨by rfl, ?_⟩) ?_
  rotate_left
  · intro w; go_simp <;> with_reducible rfl
  simp only [Act.put, List.setIfInBounds_toArray, List.set_cons_zero, List.set_cons_succ]
  refine wpAny_ready (rs := [1]) (by kernel_rfl) (by simp) ?_
  refine AllReady.cons (o := ⟨some 5, _, _, _, _, _⟩) rfl (fun K hK => ?_) AllReady.nil
  go_simp
  first | refine hK _ _ ?_ | refine ⟨trivial, hK _ _ ?_⟩ | refine ⟨fun _ _ => trivial, hK _ _ ?_⟩
  clear hK K
  refine wpAny_ready (rs := [3]) (by kernel_rfl) (by simp) ?_
  refine BigFrame.allReady_want rfl (by rfl) (fun K hK => ?_) AllReady.nil
  refine wp_append_sl _ _ 54 rfl n₀ 5 i0 (.int .u8 0) 1 1 Try.underlying54 hi hz0 hz1 hz2 rfl (by decide) _ _ _ rfl oA encU _ bl rfl sA (encU_enc _) (by unfold maxLen; omega) (by omega) (by rw [hzA.out]; omega) (fun v4 w4 o4 g4 n4 => hK _ _ ?_)
  have q4 := (g4.block n₀ (by rw [hzA.out]; omega) (fun e => by simp [Value.ownBlock, Act.eval] at e; have := hz1'.out; omega)).trans qA
  have r4 := (g4.block nb (by rw [hzA.out]; omega) (fun e => by simp [Value.ownBlock, Act.eval] at e; have := hz1'.out; omega)).trans rA
  have B4 := BA.grown g4 (by rw [hzA.out]; omega) (fun j e => by simp [Value.ownBlock, Act.eval] at e; have := hz1'.out; omega)
  have o4' : w4.ownsRow n₀ 5 1 v4 bl.length (bl.flatMap encU) := by simpa using o4
  have hz4 : nb < w4.heap.size := (Array.getElem?_eq_some_iff.1 r4).1
  clear hK K
  refine wpAny_ready (rs := [5]) (by kernel_rfl) (by simp) ?_
  refine AllReady.cons (o := ⟨some 9, _, _, _, _, _⟩) rfl (fun K hK => ?_) AllReady.nil
  go_simp
  refine (rCheck_any bl _ w4 (sB.out _ B4) (by omega)).mono ?_
  rintro e w5 ⟨v5, rfl, b5, o5⟩
  have k5 := Kept.of_below b5 0
  have q5 := k5.same _ _ q4 (.inl rfl)
  have r5 := k5.same _ _ r4 (.inl rfl)
  have p5 := k5.owns o4'
  have B5 := B4.trans (b5.mono (by omega))
  have s5 := sl_of_owns (enc := encU) (l := chkS bl) (fun _ _ => rfl) (by rw [chkS_len]; exact o5)
  have hz5 : nb < w5.heap.size := (Array.getElem?_eq_some_iff.1 r5).1
  have hv4 : ∀ j, v4.ownBlock = some j → j ≠ n₀ ∧ j ≠ nb := fun j e => ⟨fun h => by subst h; exact noB4 o4' q4 e, fun h => by subst h; exact noB4 o4' r4 e⟩
  first | refine hK _ _ ?_ | refine ⟨trivial, hK _ _ ?_⟩ | refine ⟨fun _ _ => trivial, hK _ _ ?_⟩
  clear hK K
  refine wpAny_ready (rs := [6]) (by kernel_rfl) (by simp) ?_
  refine BigFrame.allReady_want rfl (by rfl) (fun K hK => ?_) AllReady.nil
  refine wp_append_sl _ _ 54 rfl n₀ 5 i0 (.int .u8 0) 1 1 Try.underlying54 hi hz0 hz1 hz2 rfl (by decide) _ _ _ rfl p5 encU _ (chkS bl) rfl s5 (encU_enc _) (by unfold maxLen; rw [chkS_len]; omega) (by rw [chkS_len]; omega) (by omega) (fun v6 w6 o6 g6 n6 => hK _ _ ?_)
  have q6 := (g6.block n₀ (by omega) (fun e => (hv4 n₀ e.symm).1 rfl)).trans q5
  have r6 := (g6.block nb (by omega) (fun e => (hv4 nb e.symm).2 rfl)).trans r5
  have B6 := B5.grown g6 (by omega) (fun j e => own_baseI p5 e)
  have o6' : w6.ownsRow n₀ 5 1 v6 (bl ++ chkS bl).length ((bl ++ chkS bl).flatMap encU) := by rw [List.length_append, List.flatMap_append]; exact o6
  have s6 := sl_of_owns (enc := encU) (l := bl ++ chkS bl) (fun _ _ => rfl) o6'
  have hz6 : (bl ++ chkS bl).length = bl.length + 4 := by rw [List.length_append, chkS_len]
  obtain ⟨b6, f6, cp6, rfl, h61, h62, h63⟩ := s6.open (by intro h; rw [h] at hz6; simp at hz6)
  clear hK K
  refine wpAny_ready (rs := [7]) (by kernel_rfl) (by simp) ?_
  refine BigFrame.allReady_want rfl (by rfl) (fun K hK => ?_) AllReady.nil
  refine wp_copy_cells _ _ 54 54 5 rfl nb 0 128 128 ⟨b6, f6, none⟩ _ cp6 ((bl ++ chkS bl).flatMap encU) rfl rfl Try.underlying54 (by kernel_rfl) (by rw [flatU_len, hz6]; exact (Nat.min_eq_left (by omega)).symm) (fun j v hj => copy_src h63 hj) (fun j hj => (there_blk r6 (show 128 = _ from rfl) j (by rw [flatU_len, hz6] at hj; omega)).1) (fun j hj => (there_blk r6 (show 128 = _ from rfl) j (by rw [flatU_len, hz6] at hj; omega)).2) (fun v hv => flatU_one hv) (hK _ _ ?_)
  clear hK K
  refine wpAny_done (by kernel_rfl) ?_ _
  have u7 := (Upd.refl (cs := (List.replicate (bl.length + 4) (Value.int .u8 0) ++ List.replicate (124 - bl.length) (Value.int .u8 0)).toArray) (by rw [zero128_split (by omega)]; exact r6)).setPart ((bl ++ chkS bl).flatMap encU) (by rw [flatU_len, hz6, List.length_replicate])
  have hrow := seal_row bl
  rw [hrow] at u7
  have q7 := (u7.off n₀ (by omega)).trans q6
  have B7 := u7.below B6 (by omega)
  have r7 := u7.here
  obtain ⟨W7, hW7⟩ : ∃ W : World, W = w6.setCells nb 0 ((bl ++ chkS bl).flatMap encU) := ⟨_, rfl⟩
  rw [← hW7] at q7 B7 r7 ⊢
  clear hW7 u7 hrow B6 q6 r6 o6 o6' s6 h63 g6 n6 o5 q5 r5 p5 B5 k5 b5 s5 hv4 B4 q4 r4 o4 o4' g4 n4
  rw [hOB.out] at r7
  clear hOB
  have hg := range_blk (cs := OB.map fun b => Value.int .u8 b.toNat) r7
  have hi6 : (Try.prog.info? 43).map (·.size) = some (OB.map fun b => Value.int .u8 (b.toNat : Int)).length := by rw [List.length_map, hO3]; kernel_rfl
  have hi7 : (Try.prog.info? 43).map (·.size) = some (rowU OB).size := by rw [rowU_size, hO3]; kernel_rfl
  have ht7 : W7.there n₀ 0 (rowU OB).size := there_blk q7 (by rw [rowU_size, hO3]; kernel_rfl)
  have u8 := (Upd.refl q7).setCells (rowU OB).toList (by rw [Array.length_toList, rowU_size, hO3]; kernel_rfl)
  have BZ := u8.below B7 (Nat.le_refl _)
  go_upto_region 3 with (fail)
  refine wp_region_list ?_
  refine wpList_load_mid rfl 43 _ rfl nb 0 rfl (OB.map fun b => Value.int .u8 b.toNat) _ hg Try.underlying43 rfl hi6 ?_
  refine wpList_store_mid rfl 43 _ _ rfl n₀ 0 (rowU OB) rfl rfl ht7 hi7 (one_rowU _) ?_
  obtain ⟨W9, hW9⟩ : ∃ W : World, W = W7.setCells n₀ 0 (rowU OB).toList := ⟨_, rfl⟩
  rw [← hW9] at u8 BZ ⊢
  clear hW9
  refine wpList_nil ?_
  go_wp2_with (fail)
  have u2 : W9.heap[n₀]? = some (.cells (rowU OB) 43 (0, 0)) := by have h9 := u8.here; rw [Array.toArray_toList] at h9; exact h9
  exact outRow (ty := 43) rfl u2 rfl rfl (by kernel_rfl) hi7 ⟨rfl, BZ⟩
end Go.Proofs.Ytomgjapjeckokaa
namespace Go.Proofs.Ytomgjapjeckokaa
open Go.RowKit Go.Shelf Go.Lib

set_option maxRecDepth 100000 in
set_option maxHeartbeats 4000000 in
theorem rGood5_any (l : List Ent) (v : Value) (w : World) (hs : Sl w 35 encE v l) (hk : ∀ e ∈ l, e.key.length = 32) :
    Calls Try.prog 47 #[v] w fun e w' => e = .returned (.bool (goodL l)) ∧ Below w.heap.size w w' := by
  obtain ⟨n₀, hn₀⟩ : ∃ n, w.heap.size = n := ⟨_, rfl⟩
  obtain ⟨p, cp, rfl, hlc⟩ := hs.shape
  unfold maxLen at hlc
  have B0 : Below n₀ w w := Below.refl _ _
  obtain ⟨L, hL⟩ : ∃ x, l.length = x := ⟨_, rfl⟩
  obtain ⟨rb, hrb⟩ : ∃ r, goodL l = r := ⟨_, rfl⟩
  have hrb2 : (decide (1 ≤ L) && decide (L ≤ 3) && goodTo l L) = rb := by rw [← hrb, ← hL]; rfl
  rw [hL] at hs hlc ⊢
  rw [hrb, hn₀]
  clear hrb
  replace hL := hid hL
  replace hs := hid hs
  replace hn₀ := hid hn₀
  go_enter Try.func47, Try.ntmps47
  go_wp2_with (fail)
  go_loopw [3] (fun iv wr => ∃ k : Nat, k ≤ L ∧ iv = .int .i64 k ∧ goodTo l k = true ∧ Below n₀ w wr) (fun iv _ => L - (RowKit.intOf iv).toNat)
  case atStart => exact ⟨0, Nat.zero_le _, rfl, rfl, B0⟩
  case round =>
    obtain ⟨k, hkL, rfl, hacc, qB⟩ := hrel
    clear B0
    by_cases hlt : k < L
    · have hkI : (k : Int) < (L : Int) := by omega
      obtain ⟨e2, he2⟩ : ∃ e, l[k]? = some e := ⟨_, List.getElem?_eq_getElem (by rw [hL.out]; omega)⟩
      have hk2 := hk e2 (List.mem_of_getElem? he2)
      obtain ⟨b, o, c, he, -, -, hc⟩ := hs.out.open (by rintro rfl; simp at he2)
      obtain ⟨rfl, -, rfl⟩ := Value.slice.inj he
      clear he
      have hcB : ∀ W, Below n₀ w W → ∀ i e, l[i]? = some e → W.rangeAt b (o + i * 35) (encE e) := fun W hW i e h => (Kept.of_below (hn₀.out ▸ hW : Below w.heap.size w W) 0).range (hc i e h)
      have qB2 : Below n₀ w wr.drew := qB.drewN 1
      have hst : (fun W => Below wr.drew.heap.size wr.drew W) wr.drew := Below.refl _ _
      have hx2 : ∀ W, Below wr.drew.heap.size wr.drew W → W.rangeAt b (o + k * 35) (encE e2) := fun W h => (Kept.of_below h 0).range (hcB _ qB2 k e2 he2)
      have hy2 := hid (fun W (h : Below wr.drew.heap.size wr.drew W) => range_key (hx2 W h))
      have hi2 : (Try.prog.info? 48).map (·.size) = some (encE e2).length := by rw [encE_len, hk2]; kernel_rfl
      have hik2 : (Try.prog.info? 46).map (·.size) = some (keyV e2.key).length := by rw [keyV_len, hk2]; kernel_rfl
      have hstep := goodTo_succ l k
      rw [hacc, Bool.true_and] at hstep
      obtain ⟨ob, ho⟩ : ∃ x, oneE e2 = x := ⟨_, rfl⟩
      have cO := hid (fun W (_ : Below wr.drew.heap.size wr.drew W) => by have h := One_any e2 W hk2; rw [ho] at h; exact h)
      have hone : oneAt l k = ob := by unfold oneAt; rw [he2, ← ho]
      have hkey2 : keyAt l k = e2.key := keyAt_of he2
      have hno : goodTo l (k + 1) = false → rb = false := fun h => by rw [← hrb2, goodTo_stop h (by omega), Bool.and_false]
      rw [hone] at hstep
      replace hx2 := hid hx2
      replace hcB := hid hcB
      replace hacc := hid hacc
      replace he2 := hid he2
      clear hc qB hone
      cases ob with
      | false =>
        rw [Bool.and_false] at hstep
        obtain rfl := hno hstep
        clear hstep hrb2 hkey2 ho hno
        go_upto_region 4 with (fail)
        refine wp_region_held_drew (S := (fun W => Below wr.drew.heap.size wr.drew W)) (by kernel_rfl) hst (fun hHeld => ?_)
        generalize wr.drew = W5 at *
        refine tkH 0 (some 10) ?_ rfl (Or.inl ⟨by rfl, ?_⟩) ?_; rotate_left
        · intro w hSw; (try dsimp only at hSw); go_simp <;> with_reducible rfl
        try simp only [Act.put, aS, aZ, aC]
        refine tkH 1 (some 11) ?_ rfl (Or.inl ⟨by rfl, ?_⟩) ?_; rotate_left
        · intro w hSw; (try dsimp only at hSw); go_simp <;> with_reducible rfl
        try simp only [Act.put, aS, aZ, aC]
        refine tkH 2 (some 12) ?_ rfl (Or.inl ⟨by rfl, ?_⟩) ?_; rotate_left
        · intro w hSw; (try dsimp only at hSw); go_simp <;> with_reducible rfl
        try simp only [Act.put, aS, aZ, aC]
        refine tkH 3 (some 13) _ rfl (yieldsIf_load_mid (by rfl) 48 _ rfl b (o + k * 35) rfl (encE e2) _ (fun w h => hx2.out w h) Try.underlying48 rfl hi2) ?_
        try simp only [Act.put, aS, aZ, aC]
        refine wpAnyH_ready (rs := [4]) (by kernel_rfl) (by simp) ?_
        refine AllReadyH.cons (o := ⟨some 14, _, _, _, _, _⟩) rfl (fun K hK => ?_) AllReadyH.nil
        go_simp
        refine (cO.out _ hHeld).mono ?_
        rintro r w7 ⟨rfl, b7⟩
        have b8 := hHeld.trans (b7.mono hHeld.size)
        clear hHeld b7
        refine hK.out _ _ (b8) (fun hHeld => ?_)
        clear hK K
        try simp only [Act.put, aS, aZ, aC]
        refine tkH 5 (some 15) ?_ rfl (Or.inl ⟨by rfl, ?_⟩) ?_; rotate_left
        · intro w hSw; (try dsimp only at hSw); go_simp <;> with_reducible rfl
        try simp only [Act.put, aS, aZ, aC]
        refine tkH 6 (some 16) ?_ rfl (Or.inl ⟨by rfl, ?_⟩) ?_; rotate_left
        · intro w hSw; (try dsimp only at hSw); go_simp <;> with_reducible rfl
        try simp only [Act.put, aS, aZ, aC]
        refine tkH 7 (some 17) _ rfl (Or.inr ⟨by rfl, rfl⟩) ?_
        try simp only [Act.put, aS, aZ, aC]
        refine tkH 8 (some 18) _ rfl (Or.inr ⟨by rfl, rfl⟩) ?_
        try simp only [Act.put, aS, aZ, aC]
        refine tkH 9 (some 19) _ rfl (Or.inr ⟨by rfl, rfl⟩) ?_
        try simp only [Act.put, aS, aZ, aC]
        refine tkH 10 (some 20) _ rfl (Or.inr ⟨by rfl, rfl⟩) ?_
        try simp only [Act.put, aS, aZ, aC]
        refine tkH 11 (some 21) _ rfl (Or.inr ⟨by rfl, rfl⟩) ?_
        try simp only [Act.put, aS, aZ, aC]
        refine tkH 12 (some 22) _ rfl (Or.inr ⟨by rfl, rfl⟩) ?_
        try simp only [Act.put, aS, aZ, aC]
        refine tkH 13 (some 23) _ rfl (Or.inr ⟨by rfl, rfl⟩) ?_
        try simp only [Act.put, aS, aZ, aC]
        refine tkH 14 (some 24) _ rfl (Or.inr ⟨by rfl, rfl⟩) ?_
        try simp only [Act.put, aS, aZ, aC]
        refine tkH 15 (some 25) _ rfl (Or.inr ⟨by rfl, rfl⟩) ?_
        try simp only [Act.put, aS, aZ, aC]
        refine tkH 16 (some 26) _ rfl (Or.inr ⟨by rfl, rfl⟩) ?_
        try simp only [Act.put, aS, aZ, aC]
        refine tkH 17 (some 27) _ rfl (Or.inr ⟨by rfl, rfl⟩) ?_
        try simp only [Act.put, aS, aZ, aC]
        refine tkH 18 (some 28) _ rfl (Or.inr ⟨by rfl, rfl⟩) ?_
        try simp only [Act.put, aS, aZ, aC]
        refine tkH 19 (some 29) _ rfl (Or.inr ⟨by rfl, rfl⟩) ?_
        try simp only [Act.put, aS, aZ, aC]
        refine tkH 20 (some 30) _ rfl (Or.inr ⟨by rfl, rfl⟩) ?_
        try simp only [Act.put, aS, aZ, aC]
        refine tkH 21 (some 31) _ rfl (Or.inr ⟨by rfl, rfl⟩) ?_
        try simp only [Act.put, aS, aZ, aC]
        refine tkH 22 (some 32) _ rfl (Or.inr ⟨by rfl, rfl⟩) ?_
        try simp only [Act.put, aS, aZ, aC]
        refine tkH 23 (some 33) _ rfl (Or.inr ⟨by rfl, rfl⟩) ?_
        try simp only [Act.put, aS, aZ, aC]
        refine tkH 24 (some 34) ?_ rfl (Or.inl ⟨by rfl, ?_⟩) ?_; rotate_left
        · intro w hSw; (try dsimp only at hSw); go_simp <;> with_reducible rfl
        try simp only [Act.put, aS, aZ, aC]
        refine wpAnyH_done (by kernel_rfl) ?_ _
        skip
        go_wp2_with (fail)
        go_ret
        exact ⟨rfl, qB2.trans (hHeld.mono (by have := qB2.size; have := hn₀.out; omega))⟩
      | true =>
        rw [Bool.and_true] at hstep
        by_cases hk0 : k = 0
        · have hb0 : (k == 0) = true := by simpa using hk0
          rw [hb0, Bool.true_or] at hstep
          clear hkey2 hno hb0
          replace ho := hid ho
          replace hrb2 := hid hrb2
          have hk0I : ¬ (0 : Int) < (k : Int) := by omega
          have hk0N : ¬ 0 < k := by omega
          replace hk0 := hid hk0
          go_upto_region 4 with (fail)
          refine wp_region_held_drew (S := (fun W => Below wr.drew.heap.size wr.drew W)) (by kernel_rfl) hst (fun hHeld => ?_)
          generalize wr.drew = W5 at *
          refine tkH 0 (some 10) ?_ rfl (Or.inl ⟨by rfl, ?_⟩) ?_; rotate_left
          · intro w hSw; (try dsimp only at hSw); go_simp <;> with_reducible rfl
          try simp only [Act.put, aS, aZ, aC]
          refine tkH 1 (some 11) ?_ rfl (Or.inl ⟨by rfl, ?_⟩) ?_; rotate_left
          · intro w hSw; (try dsimp only at hSw); go_simp <;> with_reducible rfl
          try simp only [Act.put, aS, aZ, aC]
          refine tkH 2 (some 12) ?_ rfl (Or.inl ⟨by rfl, ?_⟩) ?_; rotate_left
          · intro w hSw; (try dsimp only at hSw); go_simp <;> with_reducible rfl
          try simp only [Act.put, aS, aZ, aC]
          refine tkH 3 (some 13) _ rfl (yieldsIf_load_mid (by rfl) 48 _ rfl b (o + k * 35) rfl (encE e2) _ (fun w h => hx2.out w h) Try.underlying48 rfl hi2) ?_
          try simp only [Act.put, aS, aZ, aC]
          refine wpAnyH_ready (rs := [4]) (by kernel_rfl) (by simp) ?_
          refine AllReadyH.cons (o := ⟨some 14, _, _, _, _, _⟩) rfl (fun K hK => ?_) AllReadyH.nil
          go_simp
          refine (cO.out _ hHeld).mono ?_
          rintro r w7 ⟨rfl, b7⟩
          have b8 := hHeld.trans (b7.mono hHeld.size)
          clear hHeld b7
          refine hK.out _ _ (b8) (fun hHeld => ?_)
          clear hK K
          try simp only [Act.put, aS, aZ, aC]
          refine tkH 5 (some 15) ?_ rfl (Or.inl ⟨by rfl, ?_⟩) ?_; rotate_left
          · intro w hSw; (try dsimp only at hSw); go_simp <;> with_reducible rfl
          try simp only [Act.put, aS, aZ, aC]
          refine tkH 6 (some 16) ?_ rfl (Or.inl ⟨by rfl, ?_⟩) ?_; rotate_left
          · intro w hSw; (try dsimp only at hSw); go_simp <;> with_reducible rfl
          try simp only [Act.put, aS, aZ, aC]
          refine tkH 7 (some 17) ?_ rfl (Or.inl ⟨by rfl, ?_⟩) ?_; rotate_left
          · intro w hSw; (try dsimp only at hSw); go_simp <;> with_reducible rfl
          try simp only [Act.put, aS, aZ, aC]
          refine tkH 8 (some 18) ?_ rfl (Or.inl ⟨by rfl, ?_⟩) ?_; rotate_left
          · intro w hSw; (try dsimp only at hSw); go_simp <;> with_reducible rfl
          try simp only [Act.put, aS, aZ, aC]
          refine tkH 9 (some 19) ?_ rfl (Or.inl ⟨by rfl, ?_⟩) ?_; rotate_left
          · intro w hSw; (try dsimp only at hSw); go_simp <;> with_reducible rfl
          try simp only [Act.put, aS, aZ, aC]
          refine tkH 10 (some 20) _ rfl (Or.inr ⟨by rfl, rfl⟩) ?_
          try simp only [Act.put, aS, aZ, aC]
          refine tkH 11 (some 21) _ rfl (Or.inr ⟨by rfl, rfl⟩) ?_
          try simp only [Act.put, aS, aZ, aC]
          refine tkH 12 (some 22) _ rfl (Or.inr ⟨by rfl, rfl⟩) ?_
          try simp only [Act.put, aS, aZ, aC]
          refine tkH 13 (some 23) _ rfl (Or.inr ⟨by rfl, rfl⟩) ?_
          try simp only [Act.put, aS, aZ, aC]
          refine tkH 14 (some 24) _ rfl (Or.inr ⟨by rfl, rfl⟩) ?_
          try simp only [Act.put, aS, aZ, aC]
          refine tkH 15 (some 25) _ rfl (Or.inr ⟨by rfl, rfl⟩) ?_
          try simp only [Act.put, aS, aZ, aC]
          refine tkH 16 (some 26) _ rfl (Or.inr ⟨by rfl, rfl⟩) ?_
          try simp only [Act.put, aS, aZ, aC]
          refine tkH 17 (some 27) _ rfl (Or.inr ⟨by rfl, rfl⟩) ?_
          try simp only [Act.put, aS, aZ, aC]
          refine tkH 18 (some 28) _ rfl (Or.inr ⟨by rfl, rfl⟩) ?_
          try simp only [Act.put, aS, aZ, aC]
          refine tkH 19 (some 29) _ rfl (Or.inr ⟨by rfl, rfl⟩) ?_
          try simp only [Act.put, aS, aZ, aC]
          refine tkH 20 (some 30) _ rfl (Or.inr ⟨by rfl, rfl⟩) ?_
          try simp only [Act.put, aS, aZ, aC]
          refine tkH 21 (some 31) _ rfl (Or.inr ⟨by rfl, rfl⟩) ?_
          try simp only [Act.put, aS, aZ, aC]
          refine tkH 22 (some 32) _ rfl (Or.inr ⟨by rfl, rfl⟩) ?_
          try simp only [Act.put, aS, aZ, aC]
          refine tkH 23 (some 33) ?_ rfl (Or.inl ⟨by rfl, ?_⟩) ?_; rotate_left
          · intro w hSw; (try dsimp only at hSw); go_simp <;> with_reducible rfl
          try simp only [Act.put, aS, aZ, aC]
          refine tkH 24 (some 34) ?_ rfl (Or.inl ⟨by rfl, ?_⟩) ?_; rotate_left
          · intro w hSw; (try dsimp only at hSw); go_simp <;> with_reducible rfl
          try simp only [Act.put, aS, aZ, aC]
          refine wpAnyH_done (by kernel_rfl) ?_ _
          skip
          have qB7 : Below n₀ w w7 := qB2.trans (hHeld.mono (by have := qB2.size; have := hn₀.out; omega))
          clear hHeld qB2 cO hst
          replace hstep := hid hstep
          go_wp2_with (fail)
          refine ⟨?_, ?_⟩
          · first | exact ⟨k + 1, by omega, by go_num, hstep.out, qB7⟩ | ((repeat apply Exists.intro); refine ⟨?_, rfl⟩; exact ⟨k + 1, by omega, by go_num, hstep.out, qB7⟩)
          · simp [RowKit.intOf]; omega
        · obtain ⟨j, hj⟩ : ∃ j, k - 1 = j := ⟨_, rfl⟩
          have hk0I : (0 : Int) < (k : Int) := by omega
          have hk0N : 0 < k := by omega
          have hjI : (j : Int) < (L : Int) := by omega
          have hkw : IntKind.i64.wrap ((k : Int) - 1) = (j : Int) := by rw [IntKind.wrap_i64]; omega
          obtain ⟨e1, he1⟩ : ∃ e, l[j]? = some e := ⟨_, List.getElem?_eq_getElem (by rw [hL.out]; omega)⟩
          have hk1 := hk e1 (List.mem_of_getElem? he1)
          have hkey1 : keyAt l j = e1.key := keyAt_of he1
          have hik1 : (Try.prog.info? 46).map (·.size) = some (keyV e1.key).length := by rw [keyV_len, hk1]; kernel_rfl
          have hy1 := hid (fun W (h : Below wr.drew.heap.size wr.drew W) => range_key ((Kept.of_below h 0).range (hcB.out _ qB2 j e1 he1)))
          obtain ⟨ls, hls⟩ : ∃ x, lessS e1.key e2.key = x := ⟨_, rfl⟩
          have cL := hid (fun W (_ : Below wr.drew.heap.size wr.drew W) => by have h := rLess_any e1.key e2.key W hk1 hk2; rw [hls] at h; exact h)
          rw [show (k == 0) = false by simpa using hk0, Bool.false_or, hj, hkey1, hkey2, hls] at hstep
          clear hkey1 hkey2 hls he1
          replace ho := hid ho
          replace hk0 := hid hk0
          replace hj := hid hj
          cases ls with
          | false =>
            obtain rfl := hno hstep
            clear hstep hrb2 hno
            go_upto_region 4 with (fail)
            refine wp_region_held_drew (S := (fun W => Below wr.drew.heap.size wr.drew W)) (by kernel_rfl) hst (fun hHeld => ?_)
            generalize wr.drew = W5 at *
            refine tkH 0 (some 10) ?_ rfl (Or.inl ⟨by rfl, ?_⟩) ?_; rotate_left
            · intro w hSw; (try dsimp only at hSw); go_simp <;> with_reducible rfl
            try simp only [Act.put, aS, aZ, aC]
            refine tkH 1 (some 11) ?_ rfl (Or.inl ⟨by rfl, ?_⟩) ?_; rotate_left
            · intro w hSw; (try dsimp only at hSw); go_simp <;> with_reducible rfl
            try simp only [Act.put, aS, aZ, aC]
            refine tkH 2 (some 12) ?_ rfl (Or.inl ⟨by rfl, ?_⟩) ?_; rotate_left
            · intro w hSw; (try dsimp only at hSw); go_simp <;> with_reducible rfl
            try simp only [Act.put, aS, aZ, aC]
            refine tkH 3 (some 13) _ rfl (yieldsIf_load_mid (by rfl) 48 _ rfl b (o + k * 35) rfl (encE e2) _ (fun w h => hx2.out w h) Try.underlying48 rfl hi2) ?_
            try simp only [Act.put, aS, aZ, aC]
            refine wpAnyH_ready (rs := [4]) (by kernel_rfl) (by simp) ?_
            refine AllReadyH.cons (o := ⟨some 14, _, _, _, _, _⟩) rfl (fun K hK => ?_) AllReadyH.nil
            go_simp
            refine (cO.out _ hHeld).mono ?_
            rintro r w7 ⟨rfl, b7⟩
            have b8 := hHeld.trans (b7.mono hHeld.size)
            clear hHeld b7
            refine hK.out _ _ (b8) (fun hHeld => ?_)
            clear hK K
            try simp only [Act.put, aS, aZ, aC]
            refine tkH 5 (some 15) ?_ rfl (Or.inl ⟨by rfl, ?_⟩) ?_; rotate_left
            · intro w hSw; (try dsimp only at hSw); go_simp <;> with_reducible rfl
            try simp only [Act.put, aS, aZ, aC]
            refine tkH 6 (some 16) ?_ rfl (Or.inl ⟨by rfl, ?_⟩) ?_; rotate_left
            · intro w hSw; (try dsimp only at hSw); go_simp <;> with_reducible rfl
            try simp only [Act.put, aS, aZ, aC]
            refine tkH 7 (some 17) ?_ rfl (Or.inl ⟨by rfl, ?_⟩) ?_; rotate_left
            · intro w hSw; (try dsimp only at hSw); go_simp <;> with_reducible rfl
            try simp only [Act.put, aS, aZ, aC]
            refine tkH 8 (some 18) ?_ rfl (Or.inl ⟨by rfl, ?_⟩) ?_; rotate_left
            · intro w hSw; (try dsimp only at hSw); go_simp <;> with_reducible rfl
            try simp only [Act.put, aS, aZ, aC]
            refine tkH 9 (some 19) ?_ rfl (Or.inl ⟨by rfl, ?_⟩) ?_; rotate_left
            · intro w hSw; (try dsimp only at hSw); go_simp <;> with_reducible rfl
            try simp only [Act.put, aS, aZ, aC]
            refine tkH 10 (some 20) ?_ rfl (Or.inl ⟨by rfl, ?_⟩) ?_; rotate_left
            · intro w hSw; (try dsimp only at hSw); go_simp <;> with_reducible rfl
            try simp only [Act.put, aS, aZ, aC]
            refine tkH 11 (some 21) ?_ rfl (Or.inl ⟨by rfl, ?_⟩) ?_; rotate_left
            · intro w hSw; (try dsimp only at hSw); go_simp <;> with_reducible rfl
            try simp only [Act.put, aS, aZ, aC]
            refine tkH 12 (some 22) ?_ rfl (Or.inl ⟨by rfl, ?_⟩) ?_; rotate_left
            · intro w hSw; (try dsimp only at hSw); go_simp <;> with_reducible rfl
            try simp only [Act.put, aS, aZ, aC]
            refine tkH 13 (some 23) ?_ rfl (Or.inl ⟨by rfl, ?_⟩) ?_; rotate_left
            · intro w hSw; (try dsimp only at hSw); go_simp <;> with_reducible rfl
            try simp only [Act.put, aS, aZ, aC]
            refine tkH 14 (some 24) ?_ rfl (Or.inl ⟨by rfl, ?_⟩) ?_; rotate_left
            · intro w hSw; (try dsimp only at hSw); go_simp <;> with_reducible rfl
            try simp only [Act.put, aS, aZ, aC]
            refine tkH 15 (some 25) _ rfl (yieldsIf_load_mid (by rfl) 46 _ rfl b (o + j * 35) rfl (keyV e1.key) _ (fun w h => hy1.out w h) Try.underlying46 rfl hik1) ?_
            try simp only [Act.put, aS, aZ, aC]
            refine tkH 16 (some 26) ?_ rfl (Or.inl ⟨by rfl, ?_⟩) ?_; rotate_left
            · intro w hSw; (try dsimp only at hSw); go_simp <;> with_reducible rfl
            try simp only [Act.put, aS, aZ, aC]
            refine tkH 17 (some 27) ?_ rfl (Or.inl ⟨by rfl, ?_⟩) ?_; rotate_left
            · intro w hSw; (try dsimp only at hSw); go_simp <;> with_reducible rfl
            try simp only [Act.put, aS, aZ, aC]
            refine tkH 18 (some 28) ?_ rfl (Or.inl ⟨by rfl, ?_⟩) ?_; rotate_left
            · intro w hSw; (try dsimp only at hSw); go_simp <;> with_reducible rfl
            try simp only [Act.put, aS, aZ, aC]
            refine tkH 19 (some 29) ?_ rfl (Or.inl ⟨by rfl, ?_⟩) ?_; rotate_left
            · intro w hSw; (try dsimp only at hSw); go_simp <;> with_reducible rfl
            try simp only [Act.put, aS, aZ, aC]
            refine tkH 20 (some 30) _ rfl (yieldsIf_load_mid (by rfl) 46 _ rfl b (o + k * 35) rfl (keyV e2.key) _ (fun w h => hy2.out w h) Try.underlying46 rfl hik2) ?_
            try simp only [Act.put, aS, aZ, aC]
            refine wpAnyH_ready (rs := [21]) (by kernel_rfl) (by simp) ?_
            refine AllReadyH.cons (o := ⟨some 31, _, _, _, _, _⟩) rfl (fun K hK => ?_) AllReadyH.nil
            go_simp
            refine (cL.out _ hHeld).mono ?_
            rintro r w7 ⟨rfl, b7⟩
            have b8 := hHeld.trans (b7.mono hHeld.size)
            clear hHeld b7
            refine hK.out _ _ (b8) (fun hHeld => ?_)
            clear hK K
            try simp only [Act.put, aS, aZ, aC]
            refine tkH 22 (some 32) ?_ rfl (Or.inl ⟨by rfl, ?_⟩) ?_; rotate_left
            · intro w hSw; (try dsimp only at hSw); go_simp <;> with_reducible rfl
            try simp only [Act.put, aS, aZ, aC]
            refine tkH 23 (some 33) ?_ rfl (Or.inl ⟨by rfl, ?_⟩) ?_; rotate_left
            · intro w hSw; (try dsimp only at hSw); go_simp <;> with_reducible rfl
            try simp only [Act.put, aS, aZ, aC]
            refine tkH 24 (some 34) ?_ rfl (Or.inl ⟨by rfl, ?_⟩) ?_; rotate_left
            · intro w hSw; (try dsimp only at hSw); go_simp <;> with_reducible rfl
            try simp only [Act.put, aS, aZ, aC]
            refine wpAnyH_done (by kernel_rfl) ?_ _
            skip
            go_wp2_with (fail)
            go_ret
            exact ⟨rfl, qB2.trans (hHeld.mono (by have := qB2.size; have := hn₀.out; omega))⟩
          | true =>
            clear hno
            replace hrb2 := hid hrb2
            go_upto_region 4 with (fail)
            refine wp_region_held_drew (S := (fun W => Below wr.drew.heap.size wr.drew W)) (by kernel_rfl) hst (fun hHeld => ?_)
            generalize wr.drew = W5 at *
            refine tkH 0 (some 10) ?_ rfl (Or.inl ⟨by rfl, ?_⟩) ?_; rotate_left
            · intro w hSw; (try dsimp only at hSw); go_simp <;> with_reducible rfl
            try simp only [Act.put, aS, aZ, aC]
            refine tkH 1 (some 11) ?_ rfl (Or.inl ⟨by rfl, ?_⟩) ?_; rotate_left
            · intro w hSw; (try dsimp only at hSw); go_simp <;> with_reducible rfl
            try simp only [Act.put, aS, aZ, aC]
            refine tkH 2 (some 12) ?_ rfl (Or.inl ⟨by rfl, ?_⟩) ?_; rotate_left
            · intro w hSw; (try dsimp only at hSw); go_simp <;> with_reducible rfl
            try simp only [Act.put, aS, aZ, aC]
            refine tkH 3 (some 13) _ rfl (yieldsIf_load_mid (by rfl) 48 _ rfl b (o + k * 35) rfl (encE e2) _ (fun w h => hx2.out w h) Try.underlying48 rfl hi2) ?_
            try simp only [Act.put, aS, aZ, aC]
            refine wpAnyH_ready (rs := [4]) (by kernel_rfl) (by simp) ?_
            refine AllReadyH.cons (o := ⟨some 14, _, _, _, _, _⟩) rfl (fun K hK => ?_) AllReadyH.nil
            go_simp
            refine (cO.out _ hHeld).mono ?_
            rintro r w7 ⟨rfl, b7⟩
            have b8 := hHeld.trans (b7.mono hHeld.size)
            clear hHeld b7
            refine hK.out _ _ (b8) (fun hHeld => ?_)
            clear hK K
            try simp only [Act.put, aS, aZ, aC]
            refine tkH 5 (some 15) ?_ rfl (Or.inl ⟨by rfl, ?_⟩) ?_; rotate_left
            · intro w hSw; (try dsimp only at hSw); go_simp <;> with_reducible rfl
            try simp only [Act.put, aS, aZ, aC]
            refine tkH 6 (some 16) ?_ rfl (Or.inl ⟨by rfl, ?_⟩) ?_; rotate_left
            · intro w hSw; (try dsimp only at hSw); go_simp <;> with_reducible rfl
            try simp only [Act.put, aS, aZ, aC]
            refine tkH 7 (some 17) ?_ rfl (Or.inl ⟨by rfl, ?_⟩) ?_; rotate_left
            · intro w hSw; (try dsimp only at hSw); go_simp <;> with_reducible rfl
            try simp only [Act.put, aS, aZ, aC]
            refine tkH 8 (some 18) ?_ rfl (Or.inl ⟨by rfl, ?_⟩) ?_; rotate_left
            · intro w hSw; (try dsimp only at hSw); go_simp <;> with_reducible rfl
            try simp only [Act.put, aS, aZ, aC]
            refine tkH 9 (some 19) ?_ rfl (Or.inl ⟨by rfl, ?_⟩) ?_; rotate_left
            · intro w hSw; (try dsimp only at hSw); go_simp <;> with_reducible rfl
            try simp only [Act.put, aS, aZ, aC]
            refine tkH 10 (some 20) ?_ rfl (Or.inl ⟨by rfl, ?_⟩) ?_; rotate_left
            · intro w hSw; (try dsimp only at hSw); go_simp <;> with_reducible rfl
            try simp only [Act.put, aS, aZ, aC]
            refine tkH 11 (some 21) ?_ rfl (Or.inl ⟨by rfl, ?_⟩) ?_; rotate_left
            · intro w hSw; (try dsimp only at hSw); go_simp <;> with_reducible rfl
            try simp only [Act.put, aS, aZ, aC]
            refine tkH 12 (some 22) ?_ rfl (Or.inl ⟨by rfl, ?_⟩) ?_; rotate_left
            · intro w hSw; (try dsimp only at hSw); go_simp <;> with_reducible rfl
            try simp only [Act.put, aS, aZ, aC]
            refine tkH 13 (some 23) ?_ rfl (Or.inl ⟨by rfl, ?_⟩) ?_; rotate_left
            · intro w hSw; (try dsimp only at hSw); go_simp <;> with_reducible rfl
            try simp only [Act.put, aS, aZ, aC]
            refine tkH 14 (some 24) ?_ rfl (Or.inl ⟨by rfl, ?_⟩) ?_; rotate_left
            · intro w hSw; (try dsimp only at hSw); go_simp <;> with_reducible rfl
            try simp only [Act.put, aS, aZ, aC]
            refine tkH 15 (some 25) _ rfl (yieldsIf_load_mid (by rfl) 46 _ rfl b (o + j * 35) rfl (keyV e1.key) _ (fun w h => hy1.out w h) Try.underlying46 rfl hik1) ?_
            try simp only [Act.put, aS, aZ, aC]
            refine tkH 16 (some 26) ?_ rfl (Or.inl ⟨by rfl, ?_⟩) ?_; rotate_left
            · intro w hSw; (try dsimp only at hSw); go_simp <;> with_reducible rfl
            try simp only [Act.put, aS, aZ, aC]
            refine tkH 17 (some 27) ?_ rfl (Or.inl ⟨by rfl, ?_⟩) ?_; rotate_left
            · intro w hSw; (try dsimp only at hSw); go_simp <;> with_reducible rfl
            try simp only [Act.put, aS, aZ, aC]
            refine tkH 18 (some 28) ?_ rfl (Or.inl ⟨by rfl, ?_⟩) ?_; rotate_left
            · intro w hSw; (try dsimp only at hSw); go_simp <;> with_reducible rfl
            try simp only [Act.put, aS, aZ, aC]
            refine tkH 19 (some 29) ?_ rfl (Or.inl ⟨by rfl, ?_⟩) ?_; rotate_left
            · intro w hSw; (try dsimp only at hSw); go_simp <;> with_reducible rfl
            try simp only [Act.put, aS, aZ, aC]
            refine tkH 20 (some 30) _ rfl (yieldsIf_load_mid (by rfl) 46 _ rfl b (o + k * 35) rfl (keyV e2.key) _ (fun w h => hy2.out w h) Try.underlying46 rfl hik2) ?_
            try simp only [Act.put, aS, aZ, aC]
            refine wpAnyH_ready (rs := [21]) (by kernel_rfl) (by simp) ?_
            refine AllReadyH.cons (o := ⟨some 31, _, _, _, _, _⟩) rfl (fun K hK => ?_) AllReadyH.nil
            go_simp
            refine (cL.out _ hHeld).mono ?_
            rintro r w7 ⟨rfl, b7⟩
            have b8 := hHeld.trans (b7.mono hHeld.size)
            clear hHeld b7
            refine hK.out _ _ (b8) (fun hHeld => ?_)
            clear hK K
            try simp only [Act.put, aS, aZ, aC]
            refine tkH 22 (some 32) ?_ rfl (Or.inl ⟨by rfl, ?_⟩) ?_; rotate_left
            · intro w hSw; (try dsimp only at hSw); go_simp <;> with_reducible rfl
            try simp only [Act.put, aS, aZ, aC]
            refine tkH 23 (some 33) ?_ rfl (Or.inl ⟨by rfl, ?_⟩) ?_; rotate_left
            · intro w hSw; (try dsimp only at hSw); go_simp <;> with_reducible rfl
            try simp only [Act.put, aS, aZ, aC]
            refine tkH 24 (some 34) ?_ rfl (Or.inl ⟨by rfl, ?_⟩) ?_; rotate_left
            · intro w hSw; (try dsimp only at hSw); go_simp <;> with_reducible rfl
            try simp only [Act.put, aS, aZ, aC]
            refine wpAnyH_done (by kernel_rfl) ?_ _
            skip
            have qB7 : Below n₀ w w7 := qB2.trans (hHeld.mono (by have := qB2.size; have := hn₀.out; omega))
            clear hHeld qB2 cO cL hst
            replace hstep := hid hstep
            go_wp2_with (fail)
            refine ⟨?_, ?_⟩
            · first | exact ⟨k + 1, by omega, by go_num, hstep.out, qB7⟩ | ((repeat apply Exists.intro); refine ⟨?_, rfl⟩; exact ⟨k + 1, by omega, by go_num, hstep.out, qB7⟩)
            · simp [RowKit.intOf]; omega
    · obtain rfl : k = L := by omega
      rw [hacc, Bool.and_true] at hrb2
      by_cases h1 : k < 1
      · have h1I : ¬ (1 : Int) ≤ (k : Int) := by omega
        have h1N : ¬ 1 ≤ k := by omega
        rw [decide_eq_false h1N, Bool.false_and] at hrb2
        subst hrb2
        have hd1 : decide ((k : Int) ≥ 1) = false := decide_eq_false (by omega)
        have hd2 : decide (1 ≤ k) = false := decide_eq_false h1N
        go_wp2_with (fail)
        go_ret
        exact ⟨rfl, qB⟩
      · have h1I : (1 : Int) ≤ (k : Int) := by omega
        have h1N : 1 ≤ k := by omega
        rw [decide_eq_true h1N, Bool.true_and] at hrb2
        by_cases h3 : k ≤ 3
        · have h3I : (k : Int) ≤ 3 := by omega
          rw [decide_eq_true h3] at hrb2
          subst hrb2
          go_wp2_with (fail)
          go_ret
          exact ⟨rfl, qB⟩
        · have h3I : ¬ (k : Int) ≤ 3 := by omega
          rw [decide_eq_false h3] at hrb2
          subst hrb2
          go_wp2_with (fail)
          go_ret
          exact ⟨rfl, qB⟩
end Go.Proofs.Ytomgjapjeckokaa
namespace Go.Proofs.Ytomgjapjeckokaa
open Go.RowKit Go.Shelf Go.Lib

theorem sl_keyR {w : World} {b o : Nat} {e : Ent} (h : w.rangeAt b o (encE e)) (hk : e.key.length = 32) : Sl w 1 encU (.slice (some ⟨b, o, none⟩) 32 32) e.key := by
  have h1 := range_key h
  rw [← hk]
  refine Sl.mk (Nat.le_refl _) (by rw [hk]; decide) fun i x hx => ?_
  rw [Nat.mul_one]
  intro j v hj
  match j, hj with
  | 0, hj =>
    obtain rfl := Option.some.inj hj
    refine h1 i _ ?_
    unfold keyV
    rw [List.getElem?_map, hx]; rfl
set_option maxRecDepth 100000 in
set_option maxHeartbeats 4000000 in
theorem rEncode_any (l : List Ent) (v : Value) (w : World) (hs : Sl w 35 encE v l) (hk : ∀ e ∈ l, e.key.length = 32) (_hl : l.length ≤ 1000000) :
    Calls Try.prog 30 #[v] w fun r w' => r = .returned (.tuple #[.agg (rowU (encS l).1), .int .i64 (encS l).2]) ∧ Below w.heap.size w w' := by
  obtain ⟨i0, hi, hz0, hz1, hz2⟩ := infoU8_parts
  obtain ⟨n₀, hn₀⟩ : ∃ n, w.heap.size = n := ⟨_, rfl⟩
  have g1 := World.alloc_heap_new w (.cells Try.zeroCells43 43)
  rw [hn₀] at g1
  have s1 := (Kept.alloc 0 w (.cells Try.zeroCells43 43)).sl hs
  have B1 : Below n₀ w (w.alloc (.cells Try.zeroCells43 43)) := by rw [← hn₀]; exact (Below.refl _ w).alloc (Nat.le_refl _) _
  have cG : ∀ W, Sl W 35 encE v l → Calls Try.prog 47 #[v] W fun e w' => e = .returned (.bool (goodL l)) ∧ Below W.heap.size W w' := fun W hW => rGood5_any l v W hW hk
  go_enter Try.func30, Try.ntmps30
  go_upto_region 1 with (fail)
  obtain ⟨W1, hW1⟩ : ∃ W : World, W = w.alloc (.cells Try.zeroCells43 43) := ⟨_, rfl⟩
  rw [← hW1] at g1 s1 B1 ⊢
  clear hW1
  have cG1 := hid (cG W1 s1)
  clear cG
  obtain ⟨gb, hgb⟩ : ∃ x, goodL l = x := ⟨_, rfl⟩
  rw [hgb] at cG1
  replace hgb := hid hgb
  go_wp2_with (fail)
  refine cG1.out.mono ?_
  rintro e w2 ⟨rfl, b2⟩
  have g2 := (Kept.of_below b2 0).same _ _ g1 (.inl rfl)
  have B2 := B1.trans (b2.mono (by have := B1.size; omega))
  clear cG1 s1 g1 B1 b2
  cases gb with
  | false =>
    have hres : encS l = (zer128, 11) := by unfold encS; rw [hgb.out]; rfl
    have ht1 : w2.there n₀ 0 (Try.zeroCells43).size := there_blk g2 rfl
    have u1 := (Upd.refl g2).setCells (Try.zeroCells43).toList rfl
    have BZ := u1.below B2 (Nat.le_refl _)
    have u2 := u1.here
    rw [Array.toArray_toList] at u2
    have hi7 : (Try.prog.info? 43).map (·.size) = some (Try.zeroCells43).size := by kernel_rfl
    clear u1
    replace u2 := hid u2
    replace BZ := hid BZ
    replace hres := hid hres
    go_wp2_with (refine wpList_store_mid rfl 43 _ _ rfl n₀ 0 (Try.zeroCells43) rfl rfl ht1 hi7 (by kernel_rfl) ?_)
    exact outRowTmp (ty := 43) rfl u2.out rfl rfl rfl (by kernel_rfl) hi7 ⟨by rw [hres.out]; show Ending.returned (.tuple #[.agg Try.zeroCells43, .int .i64 11]) = _; rw [zer128_row], hn₀ ▸ BZ.out⟩
  | true =>
    have hres : encS l = (sealB (encB l), 0) := by unfold encS; rw [hgb.out]; rfl
    obtain ⟨hl1, hl3⟩ := goodL_len hgb.out
    replace hres := hid hres
    have hl0 : l ≠ [] := fun e => by rw [e] at hl1; simp at hl1
    obtain ⟨b, o, cap, rfl, -, -, -⟩ := hs.open hl0
    obtain ⟨L, hL⟩ : ∃ L, l.length = L := ⟨_, rfl⟩
    rw [hL] at hs hl1 hl3 ⊢
    have hLw : IntKind.u8.wrap (L : Int) = ((b8 L).toNat : Int) := b8_wrap _
    obtain ⟨nb, hnb⟩ : ∃ n, w2.heap.size = n := ⟨_, rfl⟩
    have hnb2 : n₀ < nb := by have := (Array.getElem?_eq_some_iff.1 g2).1; omega
    obtain ⟨LI, hLI⟩ : ∃ o : Obj, o = .cells #[.int .u8 76, .int .u8 (b8 L).toNat] 5 := ⟨_, rfl⟩
    have g3 := (Kept.alloc 0 w2 LI).same _ _ g2 (.inl rfl)
    have B3 := B2.alloc (by omega) LI
    have o3 : (w2.alloc LI).ownsRow (n₀ + 1) 5 1 (.slice (some ⟨nb, 0, none⟩) 2 2) 2 ((([76, b8 L] : List UInt8)).flatMap encU) := by
      rw [hLI, ← hnb]
      exact ⟨rfl, .inr ⟨w2.heap.size, 2, _, rfl, by omega, World.alloc_heap_new w2 _, Nat.le_refl _, by decide, rfl, rfl⟩⟩
    clear g2 B2
    go_upto_region 4 with (fail)
    (try rw [hnb]); rw [← hLI]
    obtain ⟨W3, hW3⟩ : ∃ W : World, W = w2.alloc LI := ⟨_, rfl⟩
    rw [← hW3] at g3 B3 o3 ⊢
    clear hW3 hLI
    go_wp2_with (fail)
    go_loopw [4, 5] (fun bv iv wr => ∃ k : Nat, k ≤ L ∧ iv = .int .i64 k ∧ wr.ownsRow (n₀ + 1) 5 1 bv (2 + 36 * k) ((76 :: b8 L :: (l.take k).flatMap entB).flatMap encU) ∧ bv ≠ .slice none 0 0 ∧ wr.heap[n₀]? = some (.cells Try.zeroCells43 43 (0, 0)) ∧ Below n₀ w wr) (fun _ iv _ => L - (RowKit.intOf iv).toNat)
    case atStart => exact ⟨0, Nat.zero_le _, rfl, o3, by simp, g3, B3⟩
    case round =>
      obtain ⟨k, hkL, rfl, oW, hbn, hn5, B5⟩ := hrel
      clear o3 g3 B3
      obtain ⟨pb, cb, rfl, -, -⟩ := owns_shape oW
      by_cases hlt : k < L
      · have hkI : (k : Int) < (L : Int) := by omega
        obtain ⟨e2, he2⟩ : ∃ e, l[k]? = some e := ⟨_, List.getElem?_eq_getElem (by omega)⟩
        have hk2 := hk e2 (List.mem_of_getElem? he2)
        obtain ⟨hp1, hp2, hp3, hp4, -, hp5, hp6⟩ := oneE_is (goodL_at hgb.out he2)
        have qs := (Kept.of_below (hn₀ ▸ B5 : Below w.heap.size w wr) 0).sl hs
        obtain ⟨b', o', c', he', -, -, hc⟩ := qs.open hl0
        rw [hL] at he'
        simp only [Value.slice.injEq, Option.some.injEq, Addr.mk.injEq, and_true] at he'
        obtain ⟨⟨rfl, rfl⟩, -, rfl⟩ := he'
        have hcR : ∀ W, Below n₀ w W → W.rangeAt b (o + k * 35) (encE e2) := fun W hW => by
          obtain ⟨b9, o9, c9, he9, -, -, hc9⟩ := ((Kept.of_below (hn₀ ▸ hW : Below w.heap.size w W) 0).sl hs).open hl0
          obtain ⟨h1, -⟩ := Value.slice.inj he9
          obtain ⟨rfl, rfl, -⟩ := Addr.mk.inj (Option.some.inj h1)
          exact hc9 k e2 he2
        have hc32 := hid (fun W (h : Below n₀ w W) => (cell_place (hcR W h) hk2).1)
        have hc33 := hid (fun W (h : Below n₀ w W) => (cell_place (hcR W h) hk2).2.1)
        have hc34 := hid (fun W (h : Below n₀ w W) => (cell_place (hcR W h) hk2).2.2)
        have sk5 := hid (fun W (h : Below n₀ w W) => sl_keyR (hcR W h) hk2)
        have oW' : wr.drew.ownsRow (n₀ + 1) 5 1 _ _ _ := (Kept.drewN 0 wr 1).owns oW
        have hn5' : wr.drew.heap[n₀]? = _ := hn5
        have hst : Below n₀ w wr.drew := B5.drewN 1
        clear hcR qs hc oW hn5 B5
        have oW := oW'
        have hn5 := hn5'
        have B5 := hst
        clear oW' hn5'
        go_upto_region 7 with (fail)
        have hw1 := b8_wrap e2.place
        have hw2 := b8_wrap e2.blocks
        have hw3 := b8_wrap e2.refs
        have hw4 := b8_wrap (e2.refs / 256)
        refine wp_region_held_drew (S := (fun W => Below n₀ w W)) (by kernel_rfl) hst (fun hHeld => ?_)
        generalize wr.drew = W5 at *
        refine tkH 0 (some 20) ?_ rfl (Or.inl ⟨by rfl, ?_⟩) ?_; rotate_left
        · intro w hSw; (try dsimp only at hSw); go_simp <;> with_reducible rfl
        try simp only [Act.put, aS, aZ, aC]
        refine tkH 1 (some 21) ?_ rfl (Or.inl ⟨by rfl, ?_⟩) ?_; rotate_left
        · intro w hSw; (try dsimp only at hSw); go_simp <;> with_reducible rfl
        try simp only [Act.put, aS, aZ, aC]
        refine tkH 2 (some 22) ?_ rfl (Or.inl ⟨by rfl, ?_⟩) ?_; rotate_left
        · intro w hSw; (try dsimp only at hSw); go_simp <;> with_reducible rfl
        try simp only [Act.put, aS, aZ, aC]
        refine tkH 3 (some 23) ?_ rfl (Or.inl ⟨by rfl, ?_⟩) ?_; rotate_left
        · intro w hSw; (try dsimp only at hSw); go_simp <;> with_reducible rfl
        try simp only [Act.put, aS, aZ, aC]
        refine tkH 4 (some 24) ?_ rfl (Or.inl ⟨by rfl, ?_⟩) ?_; rotate_left
        · intro w hSw; (try dsimp only at hSw); go_simp <;> with_reducible rfl
        try simp only [Act.put, aS, aZ, aC]
        refine tkH 5 (some 25) ?_ rfl (Or.inl ⟨by rfl, ?_⟩) ?_; rotate_left
        · intro w hSw; (try dsimp only at hSw); go_simp <;> with_reducible rfl
        try simp only [Act.put, aS, aZ, aC]
        refine tkH 7 (some 27) ?_ rfl (Or.inl ⟨by rfl, ?_⟩) ?_; rotate_left
        · intro w hSw; (try dsimp only at hSw); go_simp <;> with_reducible rfl
        try simp only [Act.put, aS, aZ, aC]
        refine tkH 8 (some 28) ?_ rfl (Or.inl ⟨by rfl, ?_⟩) ?_; rotate_left
        · intro w hSw; (try dsimp only at hSw); go_simp <;> with_reducible rfl
        try simp only [Act.put, aS, aZ, aC]
        refine tkH 9 (some 29) ?_ rfl (Or.inl ⟨by rfl, ?_⟩) ?_; rotate_left
        · intro w hSw; (try dsimp only at hSw); go_simp <;> with_reducible rfl
        try simp only [Act.put, aS, aZ, aC]
        refine tkH 10 (some 30) ?_ rfl (Or.inl ⟨by rfl, ?_⟩) ?_; rotate_left
        · intro w hSw; (try dsimp only at hSw); go_simp <;> with_reducible rfl
        try simp only [Act.put, aS, aZ, aC]
        refine tkH 11 (some 31) ?_ rfl (Or.inl ⟨by rfl, ?_⟩) ?_; rotate_left
        · intro w hSw; (try dsimp only at hSw); have h9 := hc32.out _ hSw; go_simp <;> with_reducible rfl
        try simp only [Act.put, aS, aZ, aC]
        refine tkH 12 (some 32) ?_ rfl (Or.inl ⟨by rfl, ?_⟩) ?_; rotate_left
        · intro w hSw; (try dsimp only at hSw); go_simp <;> with_reducible rfl
        try simp only [Act.put, aS, aZ, aC]
        refine tkH 13 (some 33) ?_ rfl (Or.inl ⟨by rfl, ?_⟩) ?_; rotate_left
        · intro w hSw; (try dsimp only at hSw); go_simp <;> with_reducible rfl
        try simp only [Act.put, aS, aZ, aC]
        refine tkH 14 (some 34) ?_ rfl (Or.inl ⟨by rfl, ?_⟩) ?_; rotate_left
        · intro w hSw; (try dsimp only at hSw); go_simp <;> with_reducible rfl
        try simp only [Act.put, aS, aZ, aC]
        refine tkH 15 (some 35) ?_ rfl (Or.inl ⟨by rfl, ?_⟩) ?_; rotate_left
        · intro w hSw; (try dsimp only at hSw); go_simp <;> with_reducible rfl
        try simp only [Act.put, aS, aZ, aC]
        refine tkH 16 (some 36) ?_ rfl (Or.inl ⟨by rfl, ?_⟩) ?_; rotate_left
        · intro w hSw; (try dsimp only at hSw); go_simp <;> with_reducible rfl
        try simp only [Act.put, aS, aZ, aC]
        refine tkH 17 (some 37) ?_ rfl (Or.inl ⟨by rfl, ?_⟩) ?_; rotate_left
        · intro w hSw; (try dsimp only at hSw); have h9 := hc33.out _ hSw; go_simp <;> with_reducible rfl
        try simp only [Act.put, aS, aZ, aC]
        refine tkH 18 (some 38) ?_ rfl (Or.inl ⟨by rfl, ?_⟩) ?_; rotate_left
        · intro w hSw; (try dsimp only at hSw); go_simp <;> with_reducible rfl
        try simp only [Act.put, aS, aZ, aC]
        refine tkH 19 (some 39) ?_ rfl (Or.inl ⟨by rfl, ?_⟩) ?_; rotate_left
        · intro w hSw; (try dsimp only at hSw); go_simp <;> with_reducible rfl
        try simp only [Act.put, aS, aZ, aC]
        refine tkH 20 (some 40) ?_ rfl (Or.inl ⟨by rfl, ?_⟩) ?_; rotate_left
        · intro w hSw; (try dsimp only at hSw); go_simp <;> with_reducible rfl
        try simp only [Act.put, aS, aZ, aC]
        refine tkH 21 (some 41) ?_ rfl (Or.inl ⟨by rfl, ?_⟩) ?_; rotate_left
        · intro w hSw; (try dsimp only at hSw); go_simp <;> with_reducible rfl
        try simp only [Act.put, aS, aZ, aC]
        refine tkH 22 (some 42) ?_ rfl (Or.inl ⟨by rfl, ?_⟩) ?_; rotate_left
        · intro w hSw; (try dsimp only at hSw); go_simp <;> with_reducible rfl
        try simp only [Act.put, aS, aZ, aC]
        refine tkH 23 (some 43) ?_ rfl (Or.inl ⟨by rfl, ?_⟩) ?_; rotate_left
        · intro w hSw; (try dsimp only at hSw); have h9 := hc34.out _ hSw; go_simp <;> with_reducible rfl
        try simp only [Act.put, aS, aZ, aC]
        refine tkH 24 (some 44) ?_ rfl (Or.inl ⟨by rfl, ?_⟩) ?_; rotate_left
        · intro w hSw; (try dsimp only at hSw); go_simp <;> with_reducible rfl
        try simp only [Act.put, aS, aZ, aC]
        refine tkH 25 (some 45) ?_ rfl (Or.inl ⟨by rfl, ?_⟩) ?_; rotate_left
        · intro w hSw; (try dsimp only at hSw); go_simp <;> with_reducible rfl
        try simp only [Act.put, aS, aZ, aC]
        refine tkH 26 (some 46) ?_ rfl (Or.inl ⟨by rfl, ?_⟩) ?_; rotate_left
        · intro w hSw; (try dsimp only at hSw); go_simp <;> with_reducible rfl
        try simp only [Act.put, aS, aZ, aC]
        refine tkH 27 (some 47) ?_ rfl (Or.inl ⟨by rfl, ?_⟩) ?_; rotate_left
        · intro w hSw; (try dsimp only at hSw); go_simp <;> with_reducible rfl
        try simp only [Act.put, aS, aZ, aC]
        refine tkH 28 (some 48) ?_ rfl (Or.inl ⟨by rfl, ?_⟩) ?_; rotate_left
        · intro w hSw; (try dsimp only at hSw); go_simp <;> with_reducible rfl
        try simp only [Act.put, aS, aZ, aC]
        refine tkH 29 (some 49) ?_ rfl (Or.inl ⟨by rfl, ?_⟩) ?_; rotate_left
        · intro w hSw; (try dsimp only at hSw); go_simp <;> with_reducible rfl
        try simp only [Act.put, aS, aZ, aC]
        refine tkH 30 (some 50) ?_ rfl (Or.inl ⟨by rfl, ?_⟩) ?_; rotate_left
        · intro w hSw; (try dsimp only at hSw); have h9 := hc34.out _ hSw; go_simp <;> with_reducible rfl
        try simp only [Act.put, aS, aZ, aC]
        refine tkH 31 (some 51) ?_ rfl (Or.inl ⟨by rfl, ?_⟩) ?_; rotate_left
        · intro w hSw; (try dsimp only at hSw); go_simp <;> with_reducible rfl
        try simp only [Act.put, aS, aZ, aC]
        refine wpAnyH_ready (rs := [6, 32]) (by kernel_rfl) (by simp) ?_
        refine AllReadyH.cons (o := ⟨some 26, _, _, _, _, _⟩) rfl (fun K hK => ?_) ?_
        · refine (if_pos (by rfl)).mpr ?_
          refine wp_append_sl _ _ 54 rfl (n₀ + 1) 5 i0 (.int .u8 0) 1 1 Try.underlying54 hi hz0 hz1 hz2 rfl (by decide) _ _ _ rfl oW encU _ e2.key rfl (sk5.out _ B5) (encU_enc _) (by unfold maxLen; omega) (by omega) (by have h9 := (Array.getElem?_eq_some_iff.1 hn5).1; omega) (fun v3 w3 o3 hg3 n3 => hK.out _ _ ?_ (fun hHeld => ?_))
          · exact B5.grown hg3 (by have h9 := (Array.getElem?_eq_some_iff.1 hn5).1; omega) (fun j e9 => by have := own_baseI oW e9; omega)
          have hn3 := grown_blkI oW hg3 (show n₀ < n₀ + 1 by omega) hn5
          have B3 := B5.grown hg3 (by have h9 := (Array.getElem?_eq_some_iff.1 hn5).1; omega) (fun j e9 => by have := own_baseI oW e9; omega)
          clear hK K
          try simp only [Act.put, aS, aZ, aC]
          refine wpAnyH_ready (rs := [32]) (by kernel_rfl) (by simp) ?_
          refine AllReadyH.cons (o := ⟨some 52, _, _, _, _, _⟩) rfl (fun K hK => ?_) AllReadyH.nil
          go_simp
          obtain ⟨nl, hnl⟩ : ∃ n, w3.heap.size = n := ⟨_, rfl⟩
          have gl3 := World.alloc_heap_new w3 (.cells #[.int .u8 (b8 e2.place).toNat, .int .u8 (b8 e2.blocks).toNat, .int .u8 (b8 (e2.refs / 256)).toNat, .int .u8 (b8 e2.refs).toNat] 5)
          rw [hnl] at gl3
          have kL := Kept.alloc 0 w3 (.cells #[.int .u8 (b8 e2.place).toNat, .int .u8 (b8 e2.blocks).toNat, .int .u8 (b8 (e2.refs / 256)).toNat, .int .u8 (b8 e2.refs).toNat] 5)
          replace o3 := kL.owns o3
          replace B3 := B3.alloc (by have h9 := (Array.getElem?_eq_some_iff.1 hn3).1; omega) (.cells #[.int .u8 (b8 e2.place).toNat, .int .u8 (b8 e2.blocks).toNat, .int .u8 (b8 (e2.refs / 256)).toNat, .int .u8 (b8 e2.refs).toNat] 5)
          replace hn3 := kL.same _ _ hn3 (.inl rfl)
          refine hK.out _ _ (B3) (fun hHeld => ?_)
          clear hK K
          try simp only [Act.put, aS, aZ, aC]
          refine wpAnyH_ready (rs := [33]) (by kernel_rfl) (by simp) ?_
          refine AllReadyH.cons (o := ⟨some 53, _, _, _, _, _⟩) rfl (fun K hK => ?_) AllReadyH.nil
          refine (if_pos (by rfl)).mpr ?_
          refine wp_append_sl _ _ 54 rfl (n₀ + 1) 5 i0 (.int .u8 0) 1 1 Try.underlying54 hi hz0 hz1 hz2 rfl (by decide) _ _ _ rfl o3 encU _ [b8 e2.place, b8 e2.blocks, b8 (e2.refs / 256), b8 e2.refs] rfl (by rw [hnl]; exact sl_row gl3) (encU_enc _) (by unfold maxLen; simp only [List.length_cons, List.length_nil]; omega) (by simp only [List.length_cons, List.length_nil]; omega) (by have h9 := (Array.getElem?_eq_some_iff.1 hn3).1; omega) (fun v7 w7 o7 hg7 n7 => hK.out _ _ ?_ (fun hHeld => ?_))
          · exact B3.grown hg7 (by have h9 := (Array.getElem?_eq_some_iff.1 hn3).1; omega) (fun j e9 => by have := own_baseI o3 e9; omega)
          have hn7 := grown_blkI o3 hg7 (show n₀ < n₀ + 1 by omega) hn3
          have B7 := B3.grown hg7 (by have h9 := (Array.getElem?_eq_some_iff.1 hn3).1; omega) (fun j e9 => by have := own_baseI o3 e9; omega)
          clear hK K
          try simp only [Act.put, aS, aZ, aC]
          refine tkH 34 (some 4) ?_ rfl (Or.inl ⟨by rfl, ?_⟩) ?_; rotate_left
          · intro w hSw; (try dsimp only at hSw); go_simp <;> with_reducible rfl
          try simp only [Act.put, aS, aZ, aC]
          refine wpAnyH_done (by kernel_rfl) ?_ _
          have hn8 : v7 ≠ .slice none 0 0 := fun e9 => by have h9 := (n7.1 e9).1; exact hbn (n3.1 h9).1
          have o8 : w7.ownsRow (n₀ + 1) 5 1 v7 (2 + 36 * (k + 1)) ((76 :: b8 L :: (l.take (k + 1)).flatMap entB).flatMap encU) := by rw [← enc_next he2, show 2 + 36 * (k + 1) = 2 + 36 * k + e2.key.length + [b8 e2.place, b8 e2.blocks, b8 (e2.refs / 256), b8 e2.refs].length by rw [hk2]; simp only [List.length_cons, List.length_nil]; omega]; exact o7
          clear o7 o3 hg7 hg3 n7 n3 gl3 hn3 B3 hHeld hst sk5 oW hn5 B5
          replace o8 := hid o8
          replace hn7 := hid hn7
          replace B7 := hid B7
          replace hn8 := hid hn8
          go_wp2_with (fail)
          refine ⟨?_, ?_⟩
          · first | exact ⟨k + 1, by omega, by go_num, o8.out, hn8.out, hn7.out, B7.out⟩ | ((repeat apply Exists.intro); refine ⟨?_, rfl⟩; exact ⟨k + 1, by omega, by go_num, o8.out, hn8.out, hn7.out, B7.out⟩)
          · simp [RowKit.intOf]; omega
        refine AllReadyH.cons (o := ⟨some 52, _, _, _, _, _⟩) rfl (fun K hK => ?_) AllReadyH.nil
        go_simp
        obtain ⟨nl, hnl⟩ : ∃ n, W5.heap.size = n := ⟨_, rfl⟩
        have gl := World.alloc_heap_new W5 (.cells #[.int .u8 (b8 e2.place).toNat, .int .u8 (b8 e2.blocks).toNat, .int .u8 (b8 (e2.refs / 256)).toNat, .int .u8 (b8 e2.refs).toNat] 5)
        rw [hnl] at gl
        have kL := Kept.alloc 0 W5 (.cells #[.int .u8 (b8 e2.place).toNat, .int .u8 (b8 e2.blocks).toNat, .int .u8 (b8 (e2.refs / 256)).toNat, .int .u8 (b8 e2.refs).toNat] 5)
        have oL := kL.owns oW
        have hnL := kL.same _ _ hn5 (.inl rfl)
        have BL := B5.alloc (by have h9 := (Array.getElem?_eq_some_iff.1 hn5).1; omega) (.cells #[.int .u8 (b8 e2.place).toNat, .int .u8 (b8 e2.blocks).toNat, .int .u8 (b8 (e2.refs / 256)).toNat, .int .u8 (b8 e2.refs).toNat] 5)
        have hnlo := fun e9 => (show ¬ _ from fun h9 => by have := own_ltI oW h9; omega : (Value.slice pb (2 + 36 * k) cb).ownBlock ≠ some nl) e9
        refine hK.out _ _ (BL) (fun hHeld => ?_)
        clear hK K
        try simp only [Act.put, aS, aZ, aC]
        refine wpAnyH_ready (rs := [6]) (by kernel_rfl) (by simp) ?_
        refine AllReadyH.cons (o := ⟨some 26, _, _, _, _, _⟩) rfl (fun K hK => ?_) AllReadyH.nil
        refine (if_pos (by rfl)).mpr ?_
        refine wp_append_sl _ _ 54 rfl (n₀ + 1) 5 i0 (.int .u8 0) 1 1 Try.underlying54 hi hz0 hz1 hz2 rfl (by decide) _ _ _ rfl oL encU _ e2.key rfl (sk5.out _ BL) (encU_enc _) (by unfold maxLen; omega) (by omega) (by have h9 := (Array.getElem?_eq_some_iff.1 hnL).1; omega) (fun v3 w3 o3 hg3 n3 => hK.out _ _ ?_ (fun hHeld => ?_))
        · exact BL.grown hg3 (by have h9 := (Array.getElem?_eq_some_iff.1 hnL).1; omega) (fun j e9 => by have := own_baseI oL e9; omega)
        have hn3 := grown_blkI oL hg3 (show n₀ < n₀ + 1 by omega) hnL
        have B3 := BL.grown hg3 (by have h9 := (Array.getElem?_eq_some_iff.1 hnL).1; omega) (fun j e9 => by have := own_baseI oL e9; omega)
        have gl3 := (hg3.block nl (Array.getElem?_eq_some_iff.1 gl).1 (fun e9 => hnlo e9.symm)).trans gl
        clear hK K
        try simp only [Act.put, aS, aZ, aC]
        refine wpAnyH_ready (rs := [33]) (by kernel_rfl) (by simp) ?_
        refine AllReadyH.cons (o := ⟨some 53, _, _, _, _, _⟩) rfl (fun K hK => ?_) AllReadyH.nil
        refine (if_pos (by rfl)).mpr ?_
        refine wp_append_sl _ _ 54 rfl (n₀ + 1) 5 i0 (.int .u8 0) 1 1 Try.underlying54 hi hz0 hz1 hz2 rfl (by decide) _ _ _ rfl o3 encU _ [b8 e2.place, b8 e2.blocks, b8 (e2.refs / 256), b8 e2.refs] rfl (by rw [hnl]; exact sl_row gl3) (encU_enc _) (by unfold maxLen; simp only [List.length_cons, List.length_nil]; omega) (by simp only [List.length_cons, List.length_nil]; omega) (by have h9 := (Array.getElem?_eq_some_iff.1 hn3).1; omega) (fun v7 w7 o7 hg7 n7 => hK.out _ _ ?_ (fun hHeld => ?_))
        · exact B3.grown hg7 (by have h9 := (Array.getElem?_eq_some_iff.1 hn3).1; omega) (fun j e9 => by have := own_baseI o3 e9; omega)
        have hn7 := grown_blkI o3 hg7 (show n₀ < n₀ + 1 by omega) hn3
        have B7 := B3.grown hg7 (by have h9 := (Array.getElem?_eq_some_iff.1 hn3).1; omega) (fun j e9 => by have := own_baseI o3 e9; omega)
        clear hK K
        try simp only [Act.put, aS, aZ, aC]
        refine tkH 34 (some 4) ?_ rfl (Or.inl ⟨by rfl, ?_⟩) ?_; rotate_left
        · intro w hSw; (try dsimp only at hSw); go_simp <;> with_reducible rfl
        try simp only [Act.put, aS, aZ, aC]
        refine wpAnyH_done (by kernel_rfl) ?_ _
        have hn8 : v7 ≠ .slice none 0 0 := fun e9 => by have h9 := (n7.1 e9).1; exact hbn (n3.1 h9).1
        have o8 : w7.ownsRow (n₀ + 1) 5 1 v7 (2 + 36 * (k + 1)) ((76 :: b8 L :: (l.take (k + 1)).flatMap entB).flatMap encU) := by rw [← enc_next he2, show 2 + 36 * (k + 1) = 2 + 36 * k + e2.key.length + [b8 e2.place, b8 e2.blocks, b8 (e2.refs / 256), b8 e2.refs].length by rw [hk2]; simp only [List.length_cons, List.length_nil]; omega]; exact o7
        clear o7 o3 hg7 hg3 n7 n3 gl3 hn3 B3 hHeld hst sk5 oW hn5 B5
        replace o8 := hid o8
        replace hn7 := hid hn7
        replace B7 := hid B7
        replace hn8 := hid hn8
        go_wp2_with (fail)
        refine ⟨?_, ?_⟩
        · first | exact ⟨k + 1, by omega, by go_num, o8.out, hn8.out, hn7.out, B7.out⟩ | ((repeat apply Exists.intro); refine ⟨?_, rfl⟩; exact ⟨k + 1, by omega, by go_num, o8.out, hn8.out, hn7.out, B7.out⟩)
        · simp [RowKit.intOf]; omega
      · obtain rfl : k = L := by omega
        rw [show l.take k = l by rw [← hL]; exact List.take_length] at oW
        have hen : 76 :: b8 k :: l.flatMap entB = encB l := by unfold encB; rw [hL]
        have hel : (encB l).length = 2 + 36 * k := by unfold encB; rw [List.length_cons, List.length_cons, entsB_len hk, hL]; omega
        rw [hen, ← hel] at oW
        have sE := sl_of_owns (enc := encU) (fun _ _ => rfl) oW
        obtain ⟨b6, f6, c6, h61, h62, h63, h64⟩ := sE.open (by unfold encB; simp)
        rw [hel] at h61
        obtain ⟨rfl, -, rfl⟩ := Value.slice.inj h61
        rw [hel] at sE
        have cS := hid (rBlock_any (encB l) _ wr sE (by omega))
        obtain ⟨OB, hOB⟩ : ∃ x, sealB (encB l) = x := ⟨_, rfl⟩
        have hO3 : OB.length = 128 := by rw [← hOB]; exact sealB_len (by omega)
        rw [hOB] at cS hres
        clear oW sE h64 hen
        go_wp2_with (fail)
        refine cS.out.mono ?_
        rintro e w9 ⟨rfl, b9⟩
        have g9 := (Kept.of_below b9 0).same _ _ hn5 (.inl rfl)
        have B9 := B5.trans (b9.mono (by have := B5.size; omega))
        clear cS hn5 B5 b9
        have hi7 : (Try.prog.info? 43).map (·.size) = some (rowU OB).size := by rw [rowU_size, hO3]; kernel_rfl
        have ht7 : w9.there n₀ 0 (rowU OB).size := there_blk g9 (by rw [rowU_size, hO3]; kernel_rfl)
        have u8 := (Upd.refl g9).setCells (rowU OB).toList (by rw [Array.length_toList, rowU_size, hO3]; kernel_rfl)
        have BZ := u8.below B9 (Nat.le_refl _)
        have u2 := u8.here
        rw [Array.toArray_toList] at u2
        clear u8 g9 B9
        replace u2 := hid u2
        replace BZ := hid BZ
        go_wp2_with (refine wpList_store_mid rfl 43 _ _ rfl n₀ 0 (rowU OB) rfl rfl ht7 hi7 (one_rowU _) ?_)
        exact outRowTmp (ty := 43) rfl u2.out rfl rfl rfl (by kernel_rfl) hi7 ⟨by rw [hres.out]; show Ending.returned (.tuple #[.agg (rowU OB), .int .i64 0]) = _; rfl, hn₀ ▸ BZ.out⟩
end Go.Proofs.Ytomgjapjeckokaa
namespace Go.Proofs.Ytomgjapjeckokaa
open Go.RowKit Go.Shelf Go.Lib

set_option maxRecDepth 100000 in
set_option maxHeartbeats 4000000 in
theorem rRoot_any (l : List Int) (v : Value) (w : World) (hs : Sl w 1 encI v l) :
    Calls Try.prog 31 #[v] w fun r w' => r = .returned (.tuple #[.agg (rowU (rootS l).1), .int .i64 (rootS l).2]) ∧ Below w.heap.size w w' := by
  obtain ⟨i0, hi, hz0, hz1, hz2⟩ := infoU8_parts
  obtain ⟨n₀, hn₀⟩ : ∃ n, w.heap.size = n := ⟨_, rfl⟩
  have g1 := World.alloc_heap_new w (.cells Try.zeroCells43 43)
  rw [hn₀] at g1
  have s1 := (Kept.alloc 0 w (.cells Try.zeroCells43 43)).sl hs
  have B1 : Below n₀ w (w.alloc (.cells Try.zeroCells43 43)) := by rw [← hn₀]; exact (Below.refl _ w).alloc (Nat.le_refl _) _
  obtain ⟨p, cap, rfl, -⟩ := hs.shape
  obtain ⟨W1, hW1⟩ : ∃ W : World, W = w.alloc (.cells Try.zeroCells43 43) := ⟨_, rfl⟩
  rw [← hW1] at g1 s1 B1
  by_cases hbad : l.length < 1 ∨ 100 < l.length
  · have hres := rootS_long hbad
    have hi7 : (Try.prog.info? 43).map (·.size) = some (Try.zeroCells43).size := by kernel_rfl
    have ht1 : W1.there n₀ 0 (Try.zeroCells43).size := there_blk g1 rfl
    have u1 := (Upd.refl g1).setCells (Try.zeroCells43).toList rfl
    have BZ := u1.below B1 (Nat.le_refl _)
    have u2 := u1.here
    rw [Array.toArray_toList] at u2
    clear u1
    replace u2 := hid u2
    replace BZ := hid BZ
    replace hres := hid hres
    clear s1 hs
    rcases (show l.length < 1 ∨ (¬ l.length < 1 ∧ 100 < l.length) by omega) with h1 | ⟨h1, h2⟩
    · have h1i : (l.length : Int) < 1 := by omega
      go_enter Try.func31, Try.ntmps31
      go_upto_region 1 with (fail)
      rw [← hW1]
      clear hW1
      go_wp2_with (refine wpList_store_mid rfl 43 _ _ rfl n₀ 0 (Try.zeroCells43) rfl rfl ht1 hi7 (by kernel_rfl) ?_)
      exact outRowTmp (ty := 43) rfl u2.out rfl rfl rfl (by kernel_rfl) hi7 ⟨by rw [hres.out]; show Ending.returned (.tuple #[.agg Try.zeroCells43, .int .i64 11]) = _; rw [zer128_row], hn₀ ▸ BZ.out⟩
    · have h1i : ¬ (l.length : Int) < 1 := by omega
      have h2i : (100 : Int) < (l.length : Int) := by omega
      go_enter Try.func31, Try.ntmps31
      go_upto_region 1 with (fail)
      rw [← hW1]
      clear hW1
      go_wp2_with (refine wpList_store_mid rfl 43 _ _ rfl n₀ 0 (Try.zeroCells43) rfl rfl ht1 hi7 (by kernel_rfl) ?_)
      exact outRowTmp (ty := 43) rfl u2.out rfl rfl rfl (by kernel_rfl) hi7 ⟨by rw [hres.out]; show Ending.returned (.tuple #[.agg Try.zeroCells43, .int .i64 11]) = _; rw [zer128_row], hn₀ ▸ BZ.out⟩
  · have hl0 : l ≠ [] := by rintro rfl; simp at hbad
    obtain ⟨b, o, cap', he, -, -, -⟩ := hs.open hl0
    obtain ⟨rfl, -, rfl⟩ := Value.slice.inj he
    obtain ⟨res, hres⟩ : ∃ x, rootS l = x := ⟨_, rfl⟩
    rw [hres]
    obtain ⟨L, hL⟩ : ∃ L, l.length = L := ⟨_, rfl⟩
    rw [hL] at s1 hs hbad he ⊢
    have hl1 : 1 ≤ L := by omega
    have hl3 : L ≤ 100 := by omega
    have h1i : ¬ (L : Int) < 1 := by omega
    have h2i : ¬ (100 : Int) < (L : Int) := by omega
    have hLw : IntKind.u8.wrap (L : Int) = ((b8 L).toNat : Int) := b8_wrap _
    obtain ⟨nb, hnb⟩ : ∃ n, W1.heap.size = n := ⟨_, rfl⟩
    have hnb2 : n₀ < nb := by have := (Array.getElem?_eq_some_iff.1 g1).1; omega
    obtain ⟨LI, hLI⟩ : ∃ o : Obj, o = .cells #[.int .u8 82, .int .u8 (b8 L).toNat] 5 := ⟨_, rfl⟩
    have g3 := (Kept.alloc 0 W1 LI).same _ _ g1 (.inl rfl)
    have B3 := B1.alloc (by omega) LI
    have o3 : (W1.alloc LI).ownsRow (n₀ + 1) 5 1 (.slice (some ⟨nb, 0, none⟩) 2 2) 2 ((([82, b8 L] : List UInt8)).flatMap encU) := by
      rw [hLI, ← hnb]
      exact ⟨rfl, .inr ⟨W1.heap.size, 2, _, rfl, by omega, World.alloc_heap_new W1 _, Nat.le_refl _, by decide, rfl, rfl⟩⟩
    clear g1 B1 s1
    replace hres := hid hres
    go_enter Try.func31, Try.ntmps31
    go_upto_region 1 with (fail)
    rw [← hW1]
    clear hW1
    go_upto_region 4 with (fail)
    (try rw [hnb]); rw [← hLI]
    obtain ⟨W3, hW3⟩ : ∃ W : World, W = W1.alloc LI := ⟨_, rfl⟩
    rw [← hW3] at g3 B3 o3 ⊢
    clear hW3 hLI
    go_wp2_with (fail)
    go_loopw [4, 5] (fun bv iv wr => ∃ k : Nat, k ≤ L ∧ iv = .int .i64 k ∧ (∀ t, t < k → plcOk l t = true) ∧ wr.ownsRow (n₀ + 1) 5 1 bv (2 + k) ((82 :: b8 L :: (l.take k).map b8).flatMap encU) ∧ bv ≠ .slice none 0 0 ∧ wr.heap[n₀]? = some (.cells Try.zeroCells43 43 (0, 0)) ∧ Below n₀ w wr) (fun _ iv _ => L - (RowKit.intOf iv).toNat)
    case atStart => exact ⟨0, Nat.zero_le _, rfl, fun t ht => absurd ht (Nat.not_lt_zero _), o3, by simp, g3, B3⟩
    case round =>
      obtain ⟨k, hkL, rfl, hok, oW, hbn, hn5, B5⟩ := hrel
      clear o3 g3 B3
      obtain ⟨pb, cb, rfl, -, -⟩ := owns_shape oW
      by_cases hlt : k < L
      · have hkI : (k : Int) < (L : Int) := by omega
        obtain ⟨x, hx⟩ : ∃ x, l[k]? = some x := ⟨_, List.getElem?_eq_getElem (by omega)⟩
        have qs := (Kept.of_below (hn₀ ▸ B5 : Below w.heap.size w wr) 0).sl hs
        obtain ⟨b', o', c', he', -, hcm, hc⟩ := qs.open hl0
        rw [hL] at he'
        simp only [Value.slice.injEq, Option.some.injEq, Addr.mk.injEq, and_true] at he'
        obtain ⟨⟨rfl, rfl⟩, -, rfl⟩ := he'
        have hcell := rangeAt_one (hc k x hx)
        rw [Nat.mul_one] at hcell
        have hkc : (k : Int) ≤ (cap : Int) := by
          rcases qs with ⟨h, -⟩ | ⟨a, cc, h, h1, -⟩
          · cases h
          · have := (Value.slice.inj h).2.2
            omega
        have hpk : plcOk l k = (decide (2 ≤ x) && decide (x < 128) && !decide (x ∈ l.take k)) := by unfold plcOk; rw [hx]
        obtain ⟨dm, hdm⟩ : ∃ d, decide (x ∈ l.take k) = d := ⟨_, rfl⟩
        rw [hdm] at hpk
        replace hdm := hid hdm
        clear qs hc
        replace hpk := hid hpk
        by_cases hrng : 2 ≤ x ∧ x < 128
        · obtain ⟨hx2, hx8⟩ := hrng
          have hx2i : ¬ x < 2 := by omega
          have hx8i : ¬ (127 : Int) < x := by omega
          replace hx := hid hx
          replace hok := hid hok
          go_wp2_with (fail)
          go_loopw [6] (fun jv wr => ∃ j : Nat, j ≤ k ∧ jv = .int .i64 j ∧ (∀ t y, t < j → l[t]? = some y → y ≠ x) ∧ wr.ownsRow (n₀ + 1) 5 1 (.slice pb (2 + k) cb) (2 + k) ((82 :: b8 L :: (l.take k).map b8).flatMap encU) ∧ wr.heap[n₀]? = some (.cells Try.zeroCells43 43 (0, 0)) ∧ Below n₀ w wr) (fun jv _ => k - (RowKit.intOf jv).toNat)
          case atStart => exact ⟨0, Nat.zero_le _, rfl, fun t _ ht => absurd ht (Nat.not_lt_zero _), oW, hn5, B5⟩
          case round =>
            obtain ⟨j, hjk, rfl, hne, oZ, hnZ, BZ0⟩ := hrel
            clear oW hn5 B5 hcell
            have oW := oZ
            have hn5 := hnZ
            have B5 := BZ0
            clear oZ hnZ BZ0
            by_cases hjl : j < k
            · have hjkI : (j : Int) < (k : Int) := by omega
              have hjLI : (j : Int) < (L : Int) := by omega
              obtain ⟨y, hy⟩ : ∃ y, l[j]? = some y := ⟨_, List.getElem?_eq_getElem (by omega)⟩
              have B5d : Below n₀ w wr.drew := B5.drewN 1
              have qs := (Kept.of_below (hn₀ ▸ B5d : Below w.heap.size w wr.drew) 0).sl hs
              obtain ⟨b', o', c', he', -, hcm, hc⟩ := qs.open hl0
              rw [hL] at he'
              simp only [Value.slice.injEq, Option.some.injEq, Addr.mk.injEq, and_true] at he'
              obtain ⟨⟨rfl, rfl⟩, -, rfl⟩ := he'
              have c1 := rangeAt_one (hc j y hy)
              have c2 := rangeAt_one (hc k x hx.out)
              rw [Nat.mul_one] at c1 c2
              have hst : (fun W => W.cell? ⟨b, o + j, none⟩ = some (.int .i64 y) ∧ W.cell? ⟨b, o + k, none⟩ = some (.int .i64 x)) wr.drew := ⟨c1, c2⟩
              have oWd : wr.drew.ownsRow (n₀ + 1) 5 1 _ _ _ := (Kept.drewN 0 wr 1).owns oW
              have hn5d : wr.drew.heap[n₀]? = _ := hn5
              clear c1 c2 hc qs oW hn5 B5
              by_cases hyx : y = x
              · have hmem : x ∈ l.take k := by
                  refine List.mem_of_getElem? (i := j) ?_
                  rw [List.getElem?_take, if_pos hjl, hy, hyx]
                obtain rfl : dm = true := by rw [← hdm.out]; exact decide_eq_true hmem
                have hyb : (y == x) = true := by rw [beq_iff_eq]; exact hyx
                clear hmem hne
                replace hyx := hid hyx
                replace hy := hid hy
                go_upto_region 12 with (fail)
                refine wp_region_held_drew (S := (fun W => W.cell? ⟨b, o + j, none⟩ = some (.int .i64 y) ∧ W.cell? ⟨b, o + k, none⟩ = some (.int .i64 x))) (by kernel_rfl) hst (fun hHeld => ?_)
                generalize wr.drew = wd at *
                refine tkH 0 (some 44) ?_ rfl (Or.inl ⟨by rfl, ?_⟩) ?_; rotate_left
                · intro w hSw; (try dsimp only at hSw); go_simp <;> with_reducible rfl
                try simp only [Act.put, aS, aZ, aC]
                refine tkH 1 (some 45) ?_ rfl (Or.inl ⟨by rfl, ?_⟩) ?_; rotate_left
                · intro w hSw; (try dsimp only at hSw); go_simp <;> with_reducible rfl
                try simp only [Act.put, aS, aZ, aC]
                refine tkH 2 (some 46) ?_ rfl (Or.inl ⟨by rfl, ?_⟩) ?_; rotate_left
                · intro w hSw; (try dsimp only at hSw); go_simp <;> with_reducible rfl
                try simp only [Act.put, aS, aZ, aC]
                refine tkH 3 (some 47) ?_ rfl (Or.inl ⟨by rfl, ?_⟩) ?_; rotate_left
                · intro w hSw; (try dsimp only at hSw); go_simp <;> with_reducible rfl
                try simp only [Act.put, aS, aZ, aC]
                refine tkH 4 (some 48) ?_ rfl (Or.inl ⟨by rfl, ?_⟩) ?_; rotate_left
                · intro w hSw; (try dsimp only at hSw); go_simp <;> with_reducible rfl
                try simp only [Act.put, aS, aZ, aC]
                refine tkH 5 (some 49) ?_ rfl (Or.inl ⟨by rfl, ?_⟩) ?_; rotate_left
                · intro w hSw; (try dsimp only at hSw); go_simp <;> with_reducible rfl
                try simp only [Act.put, aS, aZ, aC]
                refine tkH 6 (some 50) ?_ rfl (Or.inl ⟨by rfl, ?_⟩) ?_; rotate_left
                · intro w hSw; (try dsimp only at hSw); go_simp <;> with_reducible rfl
                try simp only [Act.put, aS, aZ, aC]
                refine tkH 7 (some 51) ?_ rfl (Or.inl ⟨by rfl, ?_⟩) ?_; rotate_left
                · intro w hSw; (try dsimp only at hSw); go_simp <;> with_reducible rfl
                try simp only [Act.put, aS, aZ, aC]
                refine tkH 8 (some 52) ?_ rfl (Or.inl ⟨by rfl, ?_⟩) ?_; rotate_left
                · intro w hSw; (try dsimp only at hSw); go_simp <;> with_reducible rfl
                try simp only [Act.put, aS, aZ, aC]
                refine wpAnyH_done (by kernel_rfl) ?_ _
                skip
                clear hHeld hst
                have hres2 : res = (zer128, 11) := by rw [← hres.out]; exact rootS_bad (k := k) (by omega) (by rw [hpk.out]; simp)
                clear hres hpk hok hx
                have hres := hres2
                clear hres2
                have hi7 : (Try.prog.info? 43).map (·.size) = some (Try.zeroCells43).size := by kernel_rfl
                have ht1 : wd.there n₀ 0 (Try.zeroCells43).size := there_blk hn5d rfl
                have u1 := (Upd.refl hn5d).setCells (Try.zeroCells43).toList rfl
                have BZ := u1.below B5d (Nat.le_refl _)
                have u2 := u1.here
                rw [Array.toArray_toList] at u2
                clear u1
                replace u2 := hid u2
                replace BZ := hid BZ
                replace hres := hid hres

                go_wp2_with (refine wpList_store_mid rfl 43 _ _ rfl n₀ 0 (Try.zeroCells43) rfl rfl ht1 hi7 (by kernel_rfl) ?_)
                exact outRowTmp (ty := 43) rfl u2.out rfl rfl rfl (by kernel_rfl) hi7 ⟨by rw [hres.out]; show Ending.returned (.tuple #[.agg Try.zeroCells43, .int .i64 11]) = _; rw [zer128_row], hn₀ ▸ BZ.out⟩
              · have hyb : (y == x) = false := by rw [beq_eq_false_iff_ne]; exact hyx
                have hne2 : ∀ t z, t < j + 1 → l[t]? = some z → z ≠ x := fun t z ht hz => by
                  by_cases e : t = j
                  · subst e; rw [hy] at hz; cases hz; exact hyx
                  · exact hne t z (by omega) hz
                clear hne
                replace hne2 := hid hne2
                replace hyx := hid hyx
                replace hy := hid hy
                go_upto_region 12 with (fail)
                refine wp_region_held_drew (S := (fun W => W.cell? ⟨b, o + j, none⟩ = some (.int .i64 y) ∧ W.cell? ⟨b, o + k, none⟩ = some (.int .i64 x))) (by kernel_rfl) hst (fun hHeld => ?_)
                generalize wr.drew = wd at *
                refine tkH 0 (some 44) ?_ rfl (Or.inl ⟨by rfl, ?_⟩) ?_; rotate_left
                · intro w hSw; (try dsimp only at hSw); go_simp <;> with_reducible rfl
                try simp only [Act.put, aS, aZ, aC]
                refine tkH 1 (some 45) ?_ rfl (Or.inl ⟨by rfl, ?_⟩) ?_; rotate_left
                · intro w hSw; (try dsimp only at hSw); go_simp <;> with_reducible rfl
                try simp only [Act.put, aS, aZ, aC]
                refine tkH 2 (some 46) ?_ rfl (Or.inl ⟨by rfl, ?_⟩) ?_; rotate_left
                · intro w hSw; (try dsimp only at hSw); go_simp <;> with_reducible rfl
                try simp only [Act.put, aS, aZ, aC]
                refine tkH 3 (some 47) ?_ rfl (Or.inl ⟨by rfl, ?_⟩) ?_; rotate_left
                · intro w hSw; (try dsimp only at hSw); go_simp <;> with_reducible rfl
                try simp only [Act.put, aS, aZ, aC]
                refine tkH 4 (some 48) ?_ rfl (Or.inl ⟨by rfl, ?_⟩) ?_; rotate_left
                · intro w hSw; (try dsimp only at hSw); go_simp <;> with_reducible rfl
                try simp only [Act.put, aS, aZ, aC]
                refine tkH 5 (some 49) ?_ rfl (Or.inl ⟨by rfl, ?_⟩) ?_; rotate_left
                · intro w hSw; (try dsimp only at hSw); go_simp <;> with_reducible rfl
                try simp only [Act.put, aS, aZ, aC]
                refine tkH 6 (some 50) ?_ rfl (Or.inl ⟨by rfl, ?_⟩) ?_; rotate_left
                · intro w hSw; (try dsimp only at hSw); go_simp <;> with_reducible rfl
                try simp only [Act.put, aS, aZ, aC]
                refine tkH 7 (some 51) ?_ rfl (Or.inl ⟨by rfl, ?_⟩) ?_; rotate_left
                · intro w hSw; (try dsimp only at hSw); go_simp <;> with_reducible rfl
                try simp only [Act.put, aS, aZ, aC]
                refine tkH 8 (some 52) ?_ rfl (Or.inl ⟨by rfl, ?_⟩) ?_; rotate_left
                · intro w hSw; (try dsimp only at hSw); go_simp <;> with_reducible rfl
                try simp only [Act.put, aS, aZ, aC]
                refine wpAnyH_done (by kernel_rfl) ?_ _
                skip
                clear hHeld hst
                go_wp2_with (fail)
                refine ⟨?_, ?_⟩
                · first | exact ⟨j + 1, by omega, by go_num, hne2.out, oWd, hn5d, B5d⟩ | ((repeat apply Exists.intro); refine ⟨?_, rfl⟩; exact ⟨j + 1, by omega, by go_num, hne2.out, oWd, hn5d, B5d⟩)
                · simp [RowKit.intOf]; omega
            · obtain rfl : j = k := by omega
              obtain rfl : dm = false := by
                rw [← hdm.out]
                refine decide_eq_false fun hm => ?_
                obtain ⟨t, ht, hte⟩ := List.getElem_of_mem hm
                have h1 : t < j := by rw [List.length_take] at ht; omega
                refine hne t x h1 ?_ rfl
                rw [List.getElem_take] at hte
                rw [← hte]
                exact List.getElem?_eq_getElem (by omega)
              clear hne
              have hcellJ : wr.cell? ⟨b, o + j, none⟩ = some (.int .i64 x) := by
                have qs := (Kept.of_below (hn₀ ▸ B5 : Below w.heap.size w wr) 0).sl hs
                obtain ⟨b', o', c', he', -, hcm, hc⟩ := qs.open hl0
                rw [hL] at he'
                simp only [Value.slice.injEq, Option.some.injEq, Addr.mk.injEq, and_true] at he'
                obtain ⟨⟨rfl, rfl⟩, -, rfl⟩ := he'
                have c1 := rangeAt_one (hc j x hx.out)
                rwa [Nat.mul_one] at c1
              have hok2 : ∀ t, t < j + 1 → plcOk l t = true := fun t ht => by
                by_cases e : t = j
                · rw [e, hpk.out]; simp [hx2, hx8]
                · exact hok.out t (by omega)
              have hxw : IntKind.u8.wrap x = ((b8 x).toNat : Int) := b8_wrap _
              clear hpk hok
              replace hok2 := hid hok2
              obtain ⟨LX, hLX⟩ : ∃ o : Obj, o = .cells #[.int .u8 (b8 x).toNat] 5 := ⟨_, rfl⟩
              have oL := (Kept.alloc 0 wr LX).owns oW
              have hnL := (Kept.alloc 0 wr LX).same _ _ hn5 (.inl rfl)
              have BL := B5.alloc (by have := (Array.getElem?_eq_some_iff.1 hn5).1; omega) LX
              have sL : Sl (wr.alloc LX) 1 encU (.slice (some ⟨wr.heap.size, 0, none⟩) 1 1) [b8 x] := by rw [hLX]; exact slU1 wr (b8 x) _ _ rfl
              have hsz : n₀ + 1 ≤ (wr.alloc LX).heap.size := by have := (Array.getElem?_eq_some_iff.1 hnL).1; omega
              clear oW hn5 B5
              go_wp2_with (at_builtin; go_must (rw [← hLX]; refine wpList_append_sl rfl _ _ 54 rfl (n₀ + 1) 5 i0 (.int .u8 0) 1 1 Try.underlying54 hi hz0 hz1 hz2 rfl (by decide) _ _ _ rfl oL encU _ [b8 x] rfl sL (encU_enc _) (by unfold maxLen; simp only [List.length_singleton]; omega) (by simp only [List.length_singleton]; omega) hsz ?_; intro v7 w7 o7 hg7 n7))
              have hn7 := grown_blkI oL hg7 (show n₀ < n₀ + 1 by omega) hnL
              have B7 := BL.grown hg7 (by omega) (fun j e9 => by have := own_baseI oL e9; omega)
              have hn8 : v7 ≠ .slice none 0 0 := fun e9 => hbn (n7.1 e9).1
              have o8 : w7.ownsRow (n₀ + 1) 5 1 v7 (2 + (j + 1)) ((82 :: b8 L :: (l.take (j + 1)).map b8).flatMap encU) := by rw [← root_next hx.out]; exact o7
              clear o7 hg7 n7 oL hnL BL sL hLX hsz
              replace o8 := hid o8
              replace hn7 := hid hn7
              replace B7 := hid B7
              replace hn8 := hid hn8
              go_wp2_with (fail)
              refine ⟨?_, ?_⟩
              · first | exact ⟨j + 1, by omega, by go_num, hok2.out, o8.out, hn8.out, hn7.out, B7.out⟩ | ((repeat apply Exists.intro); refine ⟨?_, rfl⟩; exact ⟨j + 1, by omega, by go_num, hok2.out, o8.out, hn8.out, hn7.out, B7.out⟩)
              · simp [RowKit.intOf]; omega
        · have hres2 : res = (zer128, 11) := by
            rw [← hres.out]
            refine rootS_bad (k := k) (by omega) ?_
            rw [hpk.out, Bool.and_eq_false_iff]
            left
            rw [Bool.and_eq_false_iff, decide_eq_false_iff_not, decide_eq_false_iff_not]
            omega
          clear hres oW hpk hok hx
          have hres := hres2
          clear hres2
          have hi7 : (Try.prog.info? 43).map (·.size) = some (Try.zeroCells43).size := by kernel_rfl
          have ht1 : wr.there n₀ 0 (Try.zeroCells43).size := there_blk hn5 rfl
          have u1 := (Upd.refl hn5).setCells (Try.zeroCells43).toList rfl
          have BZ := u1.below B5 (Nat.le_refl _)
          have u2 := u1.here
          rw [Array.toArray_toList] at u2
          clear u1
          replace u2 := hid u2
          replace BZ := hid BZ
          replace hres := hid hres
          rcases (show x < 2 ∨ (¬ x < 2 ∧ (127 : Int) < x) by omega) with h1 | ⟨h1, h2⟩
          · go_wp2_with (refine wpList_store_mid rfl 43 _ _ rfl n₀ 0 (Try.zeroCells43) rfl rfl ht1 hi7 (by kernel_rfl) ?_)
            exact outRowTmp (ty := 43) rfl u2.out rfl rfl rfl (by kernel_rfl) hi7 ⟨by rw [hres.out]; show Ending.returned (.tuple #[.agg Try.zeroCells43, .int .i64 11]) = _; rw [zer128_row], hn₀ ▸ BZ.out⟩
          · go_wp2_with (refine wpList_store_mid rfl 43 _ _ rfl n₀ 0 (Try.zeroCells43) rfl rfl ht1 hi7 (by kernel_rfl) ?_)
            exact outRowTmp (ty := 43) rfl u2.out rfl rfl rfl (by kernel_rfl) hi7 ⟨by rw [hres.out]; show Ending.returned (.tuple #[.agg Try.zeroCells43, .int .i64 11]) = _; rw [zer128_row], hn₀ ▸ BZ.out⟩
      · obtain rfl : k = L := by omega
        have hres2 : res = (sealB (rootB l), 0) := by rw [← hres.out]; exact rootS_good (by omega) (by omega) (by rw [hL]; exact hok)
        clear hres
        have hres := hid hres2
        clear hres2
        rw [show l.take k = l by rw [← hL]; exact List.take_length] at oW
        have hen : 82 :: b8 k :: l.map b8 = rootB l := by unfold rootB; rw [hL]
        have hel : (rootB l).length = 2 + k := by unfold rootB; rw [List.length_cons, List.length_cons, List.length_map, hL]; omega
        rw [hen, ← hel] at oW
        have sE := sl_of_owns (enc := encU) (fun _ _ => rfl) oW
        obtain ⟨b6, f6, c6, h61, h62, h63, h64⟩ := sE.open (by unfold rootB; simp)
        rw [hel] at h61
        obtain ⟨rfl, -, rfl⟩ := Value.slice.inj h61
        rw [hel] at sE
        have cS := hid (rBlock_any (rootB l) _ wr sE (by omega))
        obtain ⟨OB, hOB⟩ : ∃ x, sealB (rootB l) = x := ⟨_, rfl⟩
        have hO3 : OB.length = 128 := by rw [← hOB]; exact sealB_len (by omega)
        rw [hOB] at cS hres
        clear oW sE h64 hen hok
        go_wp2_with (fail)
        refine cS.out.mono ?_
        rintro e w9 ⟨rfl, b9⟩
        have g9 := (Kept.of_below b9 0).same _ _ hn5 (.inl rfl)
        have B9 := B5.trans (b9.mono (by have := B5.size; omega))
        clear cS hn5 B5 b9
        have hi7 : (Try.prog.info? 43).map (·.size) = some (rowU OB).size := by rw [rowU_size, hO3]; kernel_rfl
        have ht7 : w9.there n₀ 0 (rowU OB).size := there_blk g9 (by rw [rowU_size, hO3]; kernel_rfl)
        have u8 := (Upd.refl g9).setCells (rowU OB).toList (by rw [Array.length_toList, rowU_size, hO3]; kernel_rfl)
        have BZ := u8.below B9 (Nat.le_refl _)
        have u2 := u8.here
        rw [Array.toArray_toList] at u2
        clear u8 g9 B9
        replace u2 := hid u2
        replace BZ := hid BZ
        go_wp2_with (refine wpList_store_mid rfl 43 _ _ rfl n₀ 0 (rowU OB) rfl rfl ht7 hi7 (one_rowU _) ?_)
        exact outRowTmp (ty := 43) rfl u2.out rfl rfl rfl (by kernel_rfl) hi7 ⟨by rw [hres.out]; show Ending.returned (.tuple #[.agg (rowU OB), .int .i64 0]) = _; rfl, hn₀ ▸ BZ.out⟩
end Go.Proofs.Ytomgjapjeckokaa
namespace Go.Proofs.Ytomgjapjeckokaa
open Go.RowKit Go.Shelf Go.Lib

theorem entsU_take (X : List UInt8) (n : Nat) : entsU (X.take (36 * n)) n = entsU X n := by
  unfold entsU
  refine List.map_congr_left fun j hj => ?_
  have := List.mem_range.1 hj
  unfold entAt
  rw [List.drop_take, List.take_take, Nat.min_eq_left (by omega)]
theorem entsU_succ (X : List UInt8) (n : Nat) : entsU X (n + 1) = entsU X n ++ [entAt X n] := by
  unfold entsU
  rw [List.range_succ, List.map_append]; rfl
theorem entsU_key {bl : List UInt8} (hbl : bl.length = 128) {m : Nat} (hm : m ≤ 3) : ∀ e ∈ entsU (bl.drop 2) m, e.key.length = 32 := by
  rw [← entsU_take]
  exact entsU_keys (by simp [hbl]; omega)
theorem decS_is {bl : List UInt8} (hbl : bl.length = 128) {n m : Nat} (hn : (bl.getD 1 0).toNat = n) (hm : m = min n 3) :
    decS bl = if goodL (entsU (bl.drop 2) m) = true ∧ sealB (encB (entsU (bl.drop 2) m)) = bl then some (entsU (bl.drop 2) m) else none := by
  have hk := entsU_key hbl (m := m) (by omega)
  by_cases h3 : n ≤ 3
  · obtain rfl : m = n := by omega
    have e : leafL bl = entsU (bl.drop 2) m := by unfold leafL; rw [hn, entsU_take]
    unfold decS
    rw [e, hn]
    simp only [h3, true_and]
  · have h0 : decS bl = none := by unfold decS; rw [if_neg (fun h => h3 (hn ▸ h.1))]
    rw [h0, if_neg]
    rintro ⟨hg, hs⟩
    have h9 := (leafL_back hk hg).2
    rw [hs, hn, entsU_len] at h9
    omega
theorem below_setCells2 {n₀ g : Nat} (hg : n₀ ≤ g) {w : World} : ∀ (vs : List Value) (o : Nat) (W : World), Below n₀ w W → Below n₀ w (W.setCells g o vs)
  | [], _, _, h => h
  | v :: r, o, _, h => below_setCells2 hg r (o + 1) _ (h.setCell (p := ⟨g, o, none⟩) hg v)
theorem upd_owns_ne {W W' : World} {b : Nat} {cs' : Array Value} {t e : TypeId} {base size n : Nat} {v : Value} {xs : List Value} (u : Upd b cs' t W W') (hb : v.ownBlock ≠ some b) (h : W.ownsRow base e size v n xs) : W'.ownsRow base e size v n xs := by
  obtain ⟨h0, h1⟩ := h
  refine ⟨h0, ?_⟩
  rcases h1 with h1 | ⟨g, cap, cur, rfl, hg, hh, r⟩
  · exact .inl h1
  · exact .inr ⟨g, cap, cur, rfl, hg, (u.off g fun e9 => hb (by simp [Value.ownBlock, e9])).trans hh, r⟩
theorem wpList_build1 {P : Program} {ops : Array Oper} {rest : List Oper} {o : Oper} {a : Act} {w : World} {Q : Exit → Act → World → Prop} (hgd : o.guard = none) (t e : TypeId) (x : Operand) (ho : o.op = .buildSlice t 1 #[(0, x)]) (hu : P.underlying t = some (.slice e)) {ie : TypeInfo} {z : Value} (hie : P.info? e = some ie) (hz : ie.zero = some z) (cs : Array Value) (hx : a.eval x = .agg cs)
    (hs : cs.size = ie.size) (hb : 0 < ie.size ∧ ie.size ≤ 1000) (h : wpList P ops Q rest (a.put o.dst (.slice (some ⟨w.heap.size, 0, none⟩) 1 1)) (w.alloc (.cells cs e))) : wpList P ops Q (o :: rest) a w :=
  wpList_plain hgd fun _ hK => wp_build1 t e x ho hu hie hz cs hx hs hb (hK _ _ h)
theorem range_part {W : World} {b : Nat} {t : TypeId} {fr : Nat × Nat} {bl : List UInt8} {A n : Nat} (h : W.heap[b]? = some (.cells (rowU bl) t fr)) : ∀ i x, ((bl.drop A).take n)[i]? = some x → W.rangeAt b (A + i * 1) (encU x) := fun i x hx j v hj => by
  match j, hj with
  | 0, hj =>
    obtain rfl := Option.some.inj hj
    have hil : i < n := by have := (List.getElem?_eq_some_iff.1 hx).1; simp at this; omega
    rw [List.getElem?_take_of_lt hil, List.getElem?_drop] at hx
    rw [Nat.mul_one, Nat.add_zero]
    exact cell_blk h (rowU_at hx)
theorem entAt_is {bl : List UInt8} {i A : Nat} {p q r s : UInt8} (hA : 2 + 36 * i = A) (h1 : bl[A + 32]? = some p) (h2 : bl[A + 33]? = some q) (h3 : bl[A + 34]? = some r) (h4 : bl[A + 35]? = some s) :
    entAt (bl.drop 2) i = ⟨(bl.drop A).take 32, p.toNat, q.toNat, (r.toNat : Int) * 256 + (s.toNat : Int)⟩ := by
  have hd : (bl.drop 2).drop (36 * i) = bl.drop A := by rw [List.drop_drop, hA]
  have e : ∀ j x, j < 36 → bl[A + j]? = some x → ((bl.drop A).take 36).getD j 0 = x := fun j x hj h => by
    rw [List.getD_eq_getElem?_getD, List.getElem?_take_of_lt hj, List.getElem?_drop, h]; rfl
  unfold entAt decE
  rw [hd, e 32 p (by omega) h1, e 33 q (by omega) h2, e 34 r (by omega) h3, e 35 s (by omega) h4, List.take_take]
  rfl
theorem sl_oneE {W : World} {N : Nat} {e : Ent} {t : TypeId} {fr : Nat × Nat} (h : W.heap[N]? = some (.cells (rowE e) t fr)) : Sl W 35 encE (.slice (some ⟨N, 0, none⟩) 1 1) [e] := by
  refine Sl.mk (l := [e]) (by simp) (by decide) fun i y hy => ?_
  match i, hy with
  | 0, hy =>
    obtain rfl := Option.some.inj hy
    rw [Nat.zero_mul, Nat.add_zero]
    exact range_blk (cs := encE _) h
theorem byte_at {bl : List UInt8} (hbl : bl.length = 128) {j : Nat} (hj : j < 128) : ∃ p P, bl[j]? = some p ∧ p.toNat = P ∧ P < 256 := ⟨bl[j], _, List.getElem?_eq_getElem (by omega), rfl, bl[j].toNat_lt⟩
theorem built_ent0 (x y z : Int) : Try.prog.built 48 [(1, .int .i64 x), (2, .int .i64 y), (3, .int .i64 z)] = some (rowE ⟨List.replicate 32 0, x, y, z⟩) := by kernel_rfl

set_option maxRecDepth 100000 in
set_option maxHeartbeats 8000000 in
theorem rDecode_any (bl : List UInt8) (w : World) (hbl : bl.length = 128) :
    Calls Try.prog 33 #[.agg (rowU bl)] w fun e w' => ∃ v er, e = .returned (.tuple #[v, .int .i64 er]) ∧ Below w.heap.size w w' ∧ AnsD w' w.heap.size (decS bl) v er := by
  obtain ⟨i0, z, hi0, hz0, hz1, hz2, hz3⟩ := infoE_parts
  obtain ⟨n₀, hn₀⟩ : ∃ n, w.heap.size = n := ⟨_, rfl⟩
  have g1 := World.alloc_heap_new w (.cells (rowU bl) 43)
  rw [hn₀] at g1
  have B1 : Below n₀ w (w.alloc (.cells (rowU bl) 43)) := by rw [← hn₀]; exact (Below.refl _ w).alloc (Nat.le_refl _) _
  obtain ⟨W1, hW1⟩ : ∃ W : World, W = w.alloc (.cells (rowU bl) 43) := ⟨_, rfl⟩
  rw [← hW1] at g1 B1
  obtain ⟨nn, hnn⟩ : ∃ n, (bl.getD 1 0).toNat = n := ⟨_, rfl⟩
  have hnb : nn < 256 := by rw [← hnn]; exact (bl.getD 1 0).toNat_lt
  have hnw : IntKind.i64.wrap (nn : Int) = (nn : Int) := by rw [IntKind.wrap_i64]; omega
  obtain ⟨m, hm⟩ : ∃ m, m = min nn 3 := ⟨_, rfl⟩
  have hm3 : m ≤ 3 := by omega
  have hmn : m ≤ nn := by omega
  have hmx : m = nn ∨ (m = 3 ∧ 3 < nn) := by omega
  have hdc := decS_is hbl hnn hm
  have hkeys := entsU_key hbl hm3
  have hd1 := hid (fun (W : World) (h : W.heap[n₀]? = some (.cells (rowU bl) 43 (0, 0))) => (show W.cell? ⟨n₀, 1, none⟩ = some (.int .u8 (nn : Int)) from by
    refine cell_blk h ?_
    unfold rowU
    rw [List.getElem?_toArray, List.getElem?_map, List.getElem?_eq_getElem (by omega : 1 < bl.length), ← hnn, List.getD_eq_getElem?_getD, List.getElem?_eq_getElem (by omega : 1 < bl.length)]; rfl))
  clear hm hnn hnb
  replace hdc := hid hdc
  replace hkeys := hid hkeys
  rw [hn₀]
  go_enter Try.func33, Try.ntmps33
  go_upto_region 1 with (fail)
  rw [← hW1]
  clear hW1
  go_wp2_with (fail)
  go_loopw [4, 5] (fun ov iv wr => ∃ i : Nat, i ≤ m ∧ iv = .int .i64 i ∧ wr.ownsRow (n₀ + 1) 48 35 ov i ((entsU (bl.drop 2) i).flatMap encE) ∧ wr.heap[n₀]? = some (.cells (rowU bl) 43 (0, 0)) ∧ Below n₀ w wr) (fun _ iv _ => m - (RowKit.intOf iv).toNat)
  case atStart => exact ⟨0, Nat.zero_le _, rfl, World.ownsRow_nil _ _ _ _, g1, B1⟩
  case round =>
    obtain ⟨i, him, rfl, oW, g2, hB⟩ := hrel
    clear g1 B1
    obtain ⟨pb, cb, rfl, -, -⟩ := owns_shape oW
    have d1 := hd1.out wr g2
    by_cases hi : i < m
    · have hiN : (i : Int) < (nn : Int) := by omega
      have hi3 : (i : Int) < 3 := by omega
      have hiM : i < 3 := by omega
      obtain ⟨A0, hA0⟩ : ∃ a, 36 * i = a := ⟨_, rfl⟩
      have hwa : IntKind.i64.wrap (36 * (i : Int)) = (A0 : Int) := by rw [IntKind.wrap_i64]; omega
      obtain ⟨A, hA⟩ : ∃ a, 2 + 36 * i = a := ⟨_, rfl⟩
      have hwb : IntKind.i64.wrap (2 + (A0 : Int)) = (A : Int) := by rw [IntKind.wrap_i64]; omega
      obtain ⟨A32, h32⟩ : ∃ a, A + 32 = a := ⟨_, rfl⟩
      obtain ⟨A33, h33⟩ : ∃ a, A + 33 = a := ⟨_, rfl⟩
      obtain ⟨A34, h34⟩ : ∃ a, A + 34 = a := ⟨_, rfl⟩
      obtain ⟨A35, h35⟩ : ∃ a, A + 35 = a := ⟨_, rfl⟩
      have w32 : IntKind.i64.wrap ((A : Int) + 32) = (A32 : Int) := by rw [IntKind.wrap_i64]; omega
      have w33 : IntKind.i64.wrap ((A : Int) + 33) = (A33 : Int) := by rw [IntKind.wrap_i64]; omega
      have w34 : IntKind.i64.wrap ((A : Int) + 34) = (A34 : Int) := by rw [IntKind.wrap_i64]; omega
      have w35 : IntKind.i64.wrap ((A : Int) + 35) = (A35 : Int) := by rw [IntKind.wrap_i64]; omega
      have l32 : (A32 : Int) < 128 := by omega
      have l33 : (A33 : Int) < 128 := by omega
      have l34 : (A34 : Int) < 128 := by omega
      have l35 : (A35 : Int) < 128 := by omega
      have s1 : (A : Int) ≤ (A32 : Int) := by omega
      have s2 : (A32 : Int) ≤ 128 := by omega
      have s3 : A ≤ A32 := by omega
      have s4 : A32 ≤ 128 := by omega
      have s5 : A32 - A = 32 := by omega
      have s6 : ¬ 128 = A := by omega
      obtain ⟨p, P, hp, hP, P6⟩ := byte_at hbl (j := A32) (by omega)
      obtain ⟨q, Q, hq, hQ, Q6⟩ := byte_at hbl (j := A33) (by omega)
      obtain ⟨r, R, hr, hR, R6⟩ := byte_at hbl (j := A34) (by omega)
      obtain ⟨s, S, hs, hS, S6⟩ := byte_at hbl (j := A35) (by omega)
      have wP : IntKind.i64.wrap (P : Int) = (P : Int) := by rw [IntKind.wrap_i64]; omega
      have wQ : IntKind.i64.wrap (Q : Int) = (Q : Int) := by rw [IntKind.wrap_i64]; omega
      have wR : IntKind.i64.wrap (R : Int) = (R : Int) := by rw [IntKind.wrap_i64]; omega
      have wS : IntKind.i64.wrap (S : Int) = (S : Int) := by rw [IntKind.wrap_i64]; omega
      obtain ⟨R2, hR2⟩ : ∃ x, R * 256 = x := ⟨_, rfl⟩
      obtain ⟨T, hT⟩ : ∃ x, R2 + S = x := ⟨_, rfl⟩
      have wR2 : IntKind.i64.wrap ((R : Int) * 256) = (R2 : Int) := by rw [IntKind.wrap_i64]; omega
      have wT : IntKind.i64.wrap ((R2 : Int) + (S : Int)) = (T : Int) := by rw [IntKind.wrap_i64]; omega
      obtain ⟨ky, hky⟩ : ∃ k, (bl.drop A).take 32 = k := ⟨_, rfl⟩
      have hkl : ky.length = 32 := by rw [← hky]; simp; omega
      have hstep : entsU (bl.drop 2) (i + 1) = entsU (bl.drop 2) i ++ [(⟨ky, (P : Int), (Q : Int), (T : Int)⟩ : Ent)] := by
        rw [entsU_succ, entAt_is hA (h32 ▸ hp) (h33 ▸ hq) (h34 ▸ hr) (h35 ▸ hs), hky, hP, hQ, hR, hS, show (T : Int) = (R : Int) * 256 + (S : Int) by omega]
      obtain ⟨ne, hne⟩ : ∃ n, wr.drew.heap.size = n := ⟨_, rfl⟩
      have g2d : wr.drew.heap[n₀]? = some (.cells (rowU bl) 43 (0, 0)) := g2
      have hn0e : n₀ < ne := by have := (Array.getElem?_eq_some_iff.1 g2d).1; omega
      have hBd : Below n₀ w wr.drew := hB.drewN 1
      have oWd : wr.drew.ownsRow (n₀ + 1) 48 35 (.slice pb i cb) i _ := (Kept.drewN 0 wr 1).owns oW
      have hne0 : (Value.slice pb i cb).ownBlock ≠ some ne := fun e9 => by have := own_ltI oWd e9; omega
      have qq := fun (W : World) (h : Below ne wr.drew W) => (h.block n₀ hn0e).trans g2d
      have q32 := hid (fun (W : World) (h : Below ne wr.drew W) => (show W.cell? ⟨n₀, A32, none⟩ = some (.int .u8 (P : Int)) from by rw [← hP]; exact cell_blk (qq W h) (rowU_at hp)))
      have q33 := hid (fun (W : World) (h : Below ne wr.drew W) => (show W.cell? ⟨n₀, A33, none⟩ = some (.int .u8 (Q : Int)) from by rw [← hQ]; exact cell_blk (qq W h) (rowU_at hq)))
      have q34 := hid (fun (W : World) (h : Below ne wr.drew W) => (show W.cell? ⟨n₀, A34, none⟩ = some (.int .u8 (R : Int)) from by rw [← hR]; exact cell_blk (qq W h) (rowU_at hr)))
      have q35 := hid (fun (W : World) (h : Below ne wr.drew W) => (show W.cell? ⟨n₀, A35, none⟩ = some (.int .u8 (S : Int)) from by rw [← hS]; exact cell_blk (qq W h) (rowU_at hs)))
      have hst : Below ne wr.drew wr.drew := Below.refl _ _
      have hbuilt := built_ent0 (P : Int) (Q : Int) (T : Int)
      have hi7 : (Try.prog.info? 48).map (·.size) = some (rowE (⟨List.replicate 32 0, (P : Int), (Q : Int), (T : Int)⟩ : Ent)).size := by rw [rowE_size rfl]; kernel_rfl
      have hi8 : (Try.prog.info? 48).map (·.size) = some (encE (⟨ky, (P : Int), (Q : Int), (T : Int)⟩ : Ent)).length := by
        rw [show (encE (⟨ky, (P : Int), (Q : Int), (T : Int)⟩ : Ent)).length = 35 from by rw [encE_len]; show ky.length + 3 = 35; rw [hkl]]; kernel_rfl
      have hk1 : ∀ x ∈ [(⟨ky, (P : Int), (Q : Int), (T : Int)⟩ : Ent)], x.key.length = 32 := fun x hx => by obtain rfl := List.mem_singleton.1 hx; exact hkl
      replace hstep := hid hstep
      replace hky := hid hky
      clear qq hp hq hr hs hP hQ hR hS g2 hB oW hA0 hA h33 h34 h35 hR2 hT P6 Q6 R6 S6
      go_upto_region 6 with (fail)
      refine wp_region_held_drew (S := (fun W => Below ne wr.drew W)) (by kernel_rfl) hst (fun hHeld => ?_)
      generalize wr.drew = wd at *
      refine tkH 0 (some 24) ?_ rfl (Or.inl ⟨by rfl, ?_⟩) ?_; rotate_left
      · intro w hSw; (try dsimp only at hSw); go_simp <;> with_reducible rfl
      try simp only [Act.put, aS, aZ, aC]
      refine tkH 1 (some 25) ?_ rfl (Or.inl ⟨by rfl, ?_⟩) ?_; rotate_left
      · intro w hSw; (try dsimp only at hSw); go_simp <;> with_reducible rfl
      try simp only [Act.put, aS, aZ, aC]
      refine tkH 2 (some 26) ?_ rfl (Or.inl ⟨by rfl, ?_⟩) ?_; rotate_left
      · intro w hSw; (try dsimp only at hSw); go_simp <;> with_reducible rfl
      try simp only [Act.put, aS, aZ, aC]
      refine tkH 3 (some 27) ?_ rfl (Or.inl ⟨by rfl, ?_⟩) ?_; rotate_left
      · intro w hSw; (try dsimp only at hSw); have h9 := q32.out _ hSw; go_simp <;> with_reducible rfl
      try simp only [Act.put, aS, aZ, aC]
      refine tkH 4 (some 28) ?_ rfl (Or.inl ⟨by rfl, ?_⟩) ?_; rotate_left
      · intro w hSw; (try dsimp only at hSw); go_simp <;> with_reducible rfl
      try simp only [Act.put, aS, aZ, aC]
      refine tkH 5 (some 29) ?_ rfl (Or.inl ⟨by rfl, ?_⟩) ?_; rotate_left
      · intro w hSw; (try dsimp only at hSw); go_simp <;> with_reducible rfl
      try simp only [Act.put, aS, aZ, aC]
      refine tkH 6 (some 30) ?_ rfl (Or.inl ⟨by rfl, ?_⟩) ?_; rotate_left
      · intro w hSw; (try dsimp only at hSw); go_simp <;> with_reducible rfl
      try simp only [Act.put, aS, aZ, aC]
      refine tkH 7 (some 31) ?_ rfl (Or.inl ⟨by rfl, ?_⟩) ?_; rotate_left
      · intro w hSw; (try dsimp only at hSw); go_simp <;> with_reducible rfl
      try simp only [Act.put, aS, aZ, aC]
      refine tkH 8 (some 32) ?_ rfl (Or.inl ⟨by rfl, ?_⟩) ?_; rotate_left
      · intro w hSw; (try dsimp only at hSw); have h9 := q33.out _ hSw; go_simp <;> with_reducible rfl
      try simp only [Act.put, aS, aZ, aC]
      refine tkH 9 (some 33) ?_ rfl (Or.inl ⟨by rfl, ?_⟩) ?_; rotate_left
      · intro w hSw; (try dsimp only at hSw); go_simp <;> with_reducible rfl
      try simp only [Act.put, aS, aZ, aC]
      refine tkH 10 (some 34) ?_ rfl (Or.inl ⟨by rfl, ?_⟩) ?_; rotate_left
      · intro w hSw; (try dsimp only at hSw); go_simp <;> with_reducible rfl
      try simp only [Act.put, aS, aZ, aC]
      refine tkH 11 (some 35) ?_ rfl (Or.inl ⟨by rfl, ?_⟩) ?_; rotate_left
      · intro w hSw; (try dsimp only at hSw); go_simp <;> with_reducible rfl
      try simp only [Act.put, aS, aZ, aC]
      refine tkH 12 (some 36) ?_ rfl (Or.inl ⟨by rfl, ?_⟩) ?_; rotate_left
      · intro w hSw; (try dsimp only at hSw); go_simp <;> with_reducible rfl
      try simp only [Act.put, aS, aZ, aC]
      refine tkH 13 (some 37) ?_ rfl (Or.inl ⟨by rfl, ?_⟩) ?_; rotate_left
      · intro w hSw; (try dsimp only at hSw); have h9 := q34.out _ hSw; go_simp <;> with_reducible rfl
      try simp only [Act.put, aS, aZ, aC]
      refine tkH 14 (some 38) ?_ rfl (Or.inl ⟨by rfl, ?_⟩) ?_; rotate_left
      · intro w hSw; (try dsimp only at hSw); go_simp <;> with_reducible rfl
      try simp only [Act.put, aS, aZ, aC]
      refine tkH 15 (some 39) ?_ rfl (Or.inl ⟨by rfl, ?_⟩) ?_; rotate_left
      · intro w hSw; (try dsimp only at hSw); go_simp <;> with_reducible rfl
      try simp only [Act.put, aS, aZ, aC]
      refine tkH 16 (some 40) ?_ rfl (Or.inl ⟨by rfl, ?_⟩) ?_; rotate_left
      · intro w hSw; (try dsimp only at hSw); go_simp <;> with_reducible rfl
      try simp only [Act.put, aS, aZ, aC]
      refine tkH 17 (some 41) ?_ rfl (Or.inl ⟨by rfl, ?_⟩) ?_; rotate_left
      · intro w hSw; (try dsimp only at hSw); go_simp <;> with_reducible rfl
      try simp only [Act.put, aS, aZ, aC]
      refine tkH 18 (some 42) ?_ rfl (Or.inl ⟨by rfl, ?_⟩) ?_; rotate_left
      · intro w hSw; (try dsimp only at hSw); go_simp <;> with_reducible rfl
      try simp only [Act.put, aS, aZ, aC]
      refine tkH 19 (some 43) ?_ rfl (Or.inl ⟨by rfl, ?_⟩) ?_; rotate_left
      · intro w hSw; (try dsimp only at hSw); have h9 := q35.out _ hSw; go_simp <;> with_reducible rfl
      try simp only [Act.put, aS, aZ, aC]
      refine tkH 20 (some 44) ?_ rfl (Or.inl ⟨by rfl, ?_⟩) ?_; rotate_left
      · intro w hSw; (try dsimp only at hSw); go_simp <;> with_reducible rfl
      try simp only [Act.put, aS, aZ, aC]
      refine tkH 21 (some 45) ?_ rfl (Or.inl ⟨by rfl, ?_⟩) ?_; rotate_left
      · intro w hSw; (try dsimp only at hSw); go_simp <;> with_reducible rfl
      try simp only [Act.put, aS, aZ, aC]
      refine tkH 22 (some 46) _ rfl (yieldsIf_build (by rfl) 48 _ rfl _ (by (simp only [List.map_toArray, List.map_cons, List.map_nil]); exact hbuilt)) ?_
      try simp only [Act.put, aS, aZ, aC]
      refine wpAnyH_ready (rs := [23]) (by kernel_rfl) (by simp) ?_
      refine AllReadyH.cons (o := ⟨some 7, _, _, _, _, _⟩) rfl (fun K hK => ?_) AllReadyH.nil
      go_simp
      try rw [hne]
      have g1 := World.alloc_heap_new wd (.cells #[.int .u8 0, .int .u8 0, .int .u8 0, .int .u8 0, .int .u8 0, .int .u8 0, .int .u8 0, .int .u8 0, .int .u8 0, .int .u8 0, .int .u8 0, .int .u8 0, .int .u8 0, .int .u8 0, .int .u8 0, .int .u8 0, .int .u8 0, .int .u8 0, .int .u8 0, .int .u8 0, .int .u8 0, .int .u8 0, .int .u8 0, .int .u8 0, .int .u8 0, .int .u8 0, .int .u8 0, .int .u8 0, .int .u8 0, .int .u8 0, .int .u8 0, .int .u8 0, .int .i64 0, .int .i64 0, .int .i64 0] 48)
      rw [hne] at g1
      refine hK.out _ _ (hHeld.alloc (Nat.le_of_eq hne.symm) _) (fun hHeld => ?_)
      clear hK K
      try simp only [Act.put, aS, aZ, aC]
      refine wpAnyH_ready (rs := [24]) (by kernel_rfl) (by simp) ?_
      refine AllReadyH.cons (o := ⟨none, _, _, _, _, _⟩) rfl (fun K hK => ?_) AllReadyH.nil
      refine (if_pos (by rfl)).mpr ?_
      refine wp_store_mid 48 _ _ rfl ne 0 (rowE (⟨List.replicate 32 0, (P : Int), (Q : Int), (T : Int)⟩ : Ent)) rfl rfl (there_blk g1 rfl) hi7 (one_rowE _) ?_
      refine hK.out _ _ (below_setCells2 (Nat.le_refl _) _ _ _ hHeld) (fun hHeld => ?_)
      clear hK K
      try simp only [Act.put]
      refine wpAnyH_done (by kernel_rfl) ?_ _
      clear hHeld hst q32 q33 q34 q35
      have u6 := (Upd.refl g1).setCells (rowE (⟨List.replicate 32 0, (P : Int), (Q : Int), (T : Int)⟩ : Ent)).toList rfl
      have oW6 := upd_owns_ne u6 hne0 ((Kept.alloc 0 wd _).owns oWd)
      have g26 := (u6.off n₀ (by omega)).trans ((Kept.alloc 0 wd _).same _ _ g2d (.inl rfl))
      have B6 := u6.below (hBd.alloc (by have := hBd.size; omega) (.cells #[.int .u8 0, .int .u8 0, .int .u8 0, .int .u8 0, .int .u8 0, .int .u8 0, .int .u8 0, .int .u8 0, .int .u8 0, .int .u8 0, .int .u8 0, .int .u8 0, .int .u8 0, .int .u8 0, .int .u8 0, .int .u8 0, .int .u8 0, .int .u8 0, .int .u8 0, .int .u8 0, .int .u8 0, .int .u8 0, .int .u8 0, .int .u8 0, .int .u8 0, .int .u8 0, .int .u8 0, .int .u8 0, .int .u8 0, .int .u8 0, .int .u8 0, .int .u8 0, .int .i64 0, .int .i64 0, .int .i64 0] 48)) (Nat.le_of_lt hn0e)
      have r6 := u6.here
      rw [Array.toArray_toList] at r6
      have z6 := u6.size
      rw [World.size_alloc, hne] at z6
      obtain ⟨W6, hW6⟩ : ∃ W : World, W = (wd.alloc (.cells #[.int .u8 0, .int .u8 0, .int .u8 0, .int .u8 0, .int .u8 0, .int .u8 0, .int .u8 0, .int .u8 0, .int .u8 0, .int .u8 0, .int .u8 0, .int .u8 0, .int .u8 0, .int .u8 0, .int .u8 0, .int .u8 0, .int .u8 0, .int .u8 0, .int .u8 0, .int .u8 0, .int .u8 0, .int .u8 0, .int .u8 0, .int .u8 0, .int .u8 0, .int .u8 0, .int .u8 0, .int .u8 0, .int .u8 0, .int .u8 0, .int .u8 0, .int .u8 0, .int .i64 0, .int .i64 0, .int .i64 0] 48)).setCells ne 0 (rowE (⟨List.replicate 32 0, (P : Int), (Q : Int), (T : Int)⟩ : Ent)).toList := ⟨_, rfl⟩
      rw [← hW6] at oW6 g26 B6 r6 z6 ⊢
      clear hW6 u6 g1 oWd g2d hBd
      have rd6 : W6.drew.heap[ne]? = some (.cells (rowE (⟨List.replicate 32 0, (P : Int), (Q : Int), (T : Int)⟩ : Ent)) 48 (0, 0)) := r6
      have g26d : W6.drew.heap[n₀]? = some (.cells (rowU bl) 43 (0, 0)) := g26
      have oWd6 : W6.drew.ownsRow (n₀ + 1) 48 35 (.slice pb i cb) i _ := (Kept.drewN 0 W6 1).owns oW6
      have B6d : Below n₀ w W6.drew := B6.drewN 1
      have zd6 : W6.drew.heap.size = ne + 1 := z6
      have hst7 : Below ne W6.drew W6.drew := Below.refl _ _
      have hsrc := hid (fun j v (hj : (ky.flatMap encU)[j]? = some v) => copy_src (b := n₀) (o := A) (m := ky) (w := W6.drew) (by rw [← hky.out]; exact range_part g26d) hj)
      have ht7 := hid (there_blk rd6 (show 35 = _ from rfl))
      clear r6 g26 oW6 B6 z6
      go_upto_region 7 with (fail)
      refine wp_region_held_drew (S := (fun W => Below ne W6.drew W)) (by kernel_rfl) hst7 (fun hHeld => ?_)
      generalize W6.drew = wd at *
      refine tkH 0 (some 47) ?_ rfl (Or.inl ⟨by rfl, ?_⟩) ?_; rotate_left
      · intro w hSw; (try dsimp only at hSw); go_simp <;> with_reducible rfl
      try simp only [Act.put, aS, aZ, aC]
      refine tkH 1 (some 48) ?_ rfl (Or.inl ⟨by rfl, ?_⟩) ?_; rotate_left
      · intro w hSw; (try dsimp only at hSw); go_simp <;> with_reducible rfl
      try simp only [Act.put, aS, aZ, aC]
      refine tkH 2 (some 49) ?_ rfl (Or.inl ⟨by rfl, ?_⟩) ?_; rotate_left
      · intro w hSw; (try dsimp only at hSw); go_simp <;> with_reducible rfl
      try simp only [Act.put, aS, aZ, aC]
      refine tkH 3 (some 50) ?_ rfl (Or.inl ⟨by rfl, ?_⟩) ?_; rotate_left
      · intro w hSw; (try dsimp only at hSw); go_simp <;> with_reducible rfl
      try simp only [Act.put, aS, aZ, aC]
      refine tkH 4 (some 51) ?_ rfl (Or.inl ⟨by rfl, ?_⟩) ?_; rotate_left
      · intro w hSw; (try dsimp only at hSw); go_simp <;> with_reducible rfl
      try simp only [Act.put, aS, aZ, aC]
      refine tkH 5 (some 52) ?_ rfl (Or.inl ⟨by rfl, ?_⟩) ?_; rotate_left
      · intro w hSw; (try dsimp only at hSw); go_simp <;> with_reducible rfl
      try simp only [Act.put, aS, aZ, aC]
      refine wpAnyH_ready (rs := [6]) (by kernel_rfl) (by simp) ?_
      refine AllReadyH.cons (o := ⟨some 53, _, _, _, _, _⟩) rfl (fun K hK => ?_) AllReadyH.nil
      refine (if_pos (by rfl)).mpr ?_
      refine wp_copy_cells _ _ 54 54 5 rfl ne 0 32 32 ⟨n₀, A, none⟩ 32 _ (ky.flatMap encU) rfl rfl Try.underlying54 (by kernel_rfl) (by rw [flatU_len, hkl]; rfl) (fun j v hj => hsrc.out j v hj) (fun j hj => (ht7.out j (by rw [flatU_len, hkl] at hj; omega)).1) (fun j hj => (ht7.out j (by rw [flatU_len, hkl] at hj; omega)).2) (fun v hv => flatU_one hv) ?_
      refine hK.out _ _ (below_setCells2 (Nat.le_refl _) _ _ _ hHeld) (fun hHeld => ?_)
      clear hK K
      try simp only [Act.put, aS, aZ, aC]
      refine wpAnyH_done (by kernel_rfl) ?_ _
      clear hHeld hst7 hsrc ht7
      have u7 := (Upd.refl (cs := (keyV (List.replicate 32 0) ++ [Value.int .i64 (P : Int), Value.int .i64 (Q : Int), Value.int .i64 (T : Int)]).toArray) rd6).setPart (ky.flatMap encU) (by rw [flatU_len, hkl, keyV_len, List.length_replicate])
      have e7 : (ky.flatMap encU ++ [Value.int .i64 (P : Int), Value.int .i64 (Q : Int), Value.int .i64 (T : Int)]).toArray = rowE (⟨ky, (P : Int), (Q : Int), (T : Int)⟩ : Ent) := by unfold rowE encE; rw [flatU_map]; rfl
      rw [e7] at u7
      have oW7 := upd_owns_ne u7 hne0 oWd6
      have g27 := (u7.off n₀ (by omega)).trans g26d
      have B7 := u7.below B6d (Nat.le_of_lt hn0e)
      have r7 := u7.here
      have z7 := u7.size
      rw [zd6] at z7
      obtain ⟨W7, hW7⟩ : ∃ W : World, W = wd.setCells ne 0 (ky.flatMap encU) := ⟨_, rfl⟩
      rw [← hW7] at oW7 g27 B7 r7 z7 ⊢
      clear hW7 u7 e7 rd6 oWd6 g26d B6d
      obtain ⟨N, hN⟩ : ∃ n, W7.heap.size = n := ⟨_, rfl⟩
      have hr8 := range_blk (cs := encE (⟨ky, (P : Int), (Q : Int), (T : Int)⟩ : Ent)) r7
      have k8 := Kept.alloc 0 W7 (.cells (rowE (⟨ky, (P : Int), (Q : Int), (T : Int)⟩ : Ent)) 48)
      have r8 := World.alloc_heap_new W7 (.cells (rowE (⟨ky, (P : Int), (Q : Int), (T : Int)⟩ : Ent)) 48)
      rw [hN] at r8
      have sL := sl_oneE r8
      have oL := k8.owns oW7
      have g8 := k8.same _ _ g27 (.inl rfl)
      have B8 := B7.alloc (by have := B7.size; omega) (.cells (rowE (⟨ky, (P : Int), (Q : Int), (T : Int)⟩ : Ent)) 48)
      have hz8 : n₀ + 1 ≤ (W7.alloc (.cells (rowE (⟨ky, (P : Int), (Q : Int), (T : Int)⟩ : Ent)) 48)).heap.size := by rw [World.size_alloc]; omega
      obtain ⟨W8, hW8⟩ : ∃ W : World, W = W7.alloc (.cells (rowE (⟨ky, (P : Int), (Q : Int), (T : Int)⟩ : Ent)) 48) := ⟨_, rfl⟩
      rw [← hW8] at sL oL g8 B8 hz8
      clear k8 r8 oW7 g27 B7 r7
      go_wp2_with (first | refine wpList_load_mid rfl 48 _ rfl ne 0 rfl (encE (⟨ky, (P : Int), (Q : Int), (T : Int)⟩ : Ent)) _ hr8 Try.underlying48 rfl hi8 ?_ | (refine wpList_build1 rfl 22 48 _ rfl Try.underlying22 hi0 hz0 (rowE (⟨ky, (P : Int), (Q : Int), (T : Int)⟩ : Ent)) rfl (by rw [rowE_size hkl, hz1]) (by rw [hz1]; decide) ?_; rw [← hW8]; (try rw [hN])) | (at_builtin; go_must (refine wpList_append_sl rfl _ _ 22 rfl (n₀ + 1) 48 i0 z 35 56 Try.underlying22 hi0 hz0 hz1 hz2 hz3 (by decide) _ _ _ rfl oL encE _ [(⟨ky, (P : Int), (Q : Int), (T : Int)⟩ : Ent)] rfl sL (encE_enc hk1) (by unfold maxLen; simp only [List.length_singleton]; omega) (by simp only [List.length_singleton]; omega) hz8 ?_; intro v9 w9 o9 hg9 n9)))
      have o10 : w9.ownsRow (n₀ + 1) 48 35 v9 (i + 1) ((entsU (bl.drop 2) (i + 1)).flatMap encE) := by rw [hstep.out, List.flatMap_append]; exact o9
      have g9 := grown_blkI oL hg9 (show n₀ < n₀ + 1 by omega) g8
      have B9 := B8.grown hg9 (by omega) (fun j e9 => by have := own_baseI oL e9; omega)
      replace o10 := hid o10
      replace g9 := hid g9
      replace B9 := hid B9
      clear o9 hg9 n9 oL sL g8 B8 hstep
      refine ⟨?_, ?_⟩
      · first | exact ⟨i + 1, by omega, by go_num, o10.out, g9.out, B9.out⟩ | ((repeat apply Exists.intro); refine ⟨?_, rfl⟩; exact ⟨i + 1, by omega, by go_num, o10.out, g9.out, B9.out⟩)
      · simp [RowKit.intOf]; omega
    · obtain rfl : i = m := by omega
      have hll := entsU_len (bl.drop 2) i
      obtain ⟨LL, hLL⟩ : ∃ x, entsU (bl.drop 2) i = x := ⟨_, rfl⟩
      rw [hLL] at oW hll hdc hkeys
      clear hLL hi
      have o3' : wr.ownsRow n₀ 48 35 (.slice pb i cb) LL.length (LL.flatMap encE) := by rw [hll]; exact ownsRow_mono oW (by omega)
      have s3 := sl_of_owns (enc := encE) (l := LL) (fun x hx => by rw [encE_len, hkeys.out x hx]) o3'
      have cN := hid (rEncode_any LL _ wr s3 hkeys.out (by omega))
      obtain ⟨en, hen⟩ : ∃ x, encS LL = x := ⟨_, rfl⟩
      rw [hen] at cN
      have hen1 : en.1.length = 128 := by
        rw [← hen]
        unfold encS
        split
        · refine sealB_len ?_
          unfold encB
          rw [List.length_cons, List.length_cons, entsB_len hkeys.out, hll]; omega
        · rfl
      have hens : (en.2 = 0 ∧ goodL LL = true ∧ en.1 = sealB (encB LL)) ∨ (en.2 = 11 ∧ goodL LL = false) := by
        rw [← hen]
        unfold encS
        cases hg : goodL LL with
        | true => exact .inl ⟨rfl, rfl, rfl⟩
        | false => exact .inr ⟨rfl, rfl⟩
      clear hen s3 oW
      replace hens := hid hens
      obtain ⟨eb, er⟩ := en
      dsimp only at hen1 cN
      have hcs : ¬ (i : Int) < (nn : Int) ∨ ((i : Int) < (nn : Int) ∧ ¬ (i : Int) < 3) := by omega
      clear hmx
      replace hll := hid hll
      rcases hcs with e1 | ⟨e1, e2⟩
      all_goals
        go_wp2_with (fail)
        refine cN.out.mono ?_
        rintro e W4 ⟨rfl, b4⟩
        have g4 := (Kept.of_below b4 0).same _ _ g2 (.inl rfl)
        have o4 := (Kept.of_below b4 0).owns o3'
        have B4 := hB.trans (b4.mono (by have := hB.size; omega))
        have hens := hens.out
        dsimp only at hens ⊢
        obtain ⟨nb, hnb⟩ : ∃ n, W4.heap.size = n := ⟨_, rfl⟩
        have hnn : n₀ < nb := by have := (Array.getElem?_eq_some_iff.1 g4).1; omega
        have h1 := World.alloc_heap_new W4 (.cells Try.zeroCells43 43)
        rw [hnb] at h1
        have ht1 : (W4.alloc (.cells Try.zeroCells43 43)).there nb 0 (rowU eb).size := there_blk h1 (by rw [rowU_size, hen1]; kernel_rfl)
        have u1 := (Upd.refl h1).setCells (rowU eb).toList (by rw [Array.length_toList, rowU_size, hen1]; kernel_rfl)
        have o5 := upd_owns u1 h1 (by decide) ((Kept.alloc 0 W4 (.cells Try.zeroCells43 43)).owns o4)
        have g5 := (u1.off n₀ (by omega)).trans ((Kept.alloc 0 W4 (.cells Try.zeroCells43 43)).same _ _ g4 (.inl rfl))
        have B5 := u1.below (B4.alloc (by have := B4.size; omega) (.cells Try.zeroCells43 43)) (by omega)
        have e5 := u1.here
        rw [Array.toArray_toList] at e5
        have hi7 : (Try.prog.info? 43).map (·.size) = some (rowU eb).size := by rw [rowU_size, hen1]; kernel_rfl
        clear u1 h1 g2 o3' hB b4 g4 o4 B4 cN
        go_upto_region 10 with (refine wpList_store_mid rfl 43 _ _ rfl nb 0 (rowU eb) rfl rfl ht1 hi7 (one_rowU _) ?_)
        try simp only [Act.put]
        obtain ⟨W5, hW5⟩ : ∃ W : World, W = (W4.alloc (.cells Try.zeroCells43 43)).setCells nb 0 (rowU eb).toList := ⟨_, rfl⟩
        rw [← hW5] at o5 g5 B5 e5 ⊢
        clear hW5 ht1
        have hre := range_blk (cs := keyV eb) e5
        have hrb := range_blk (cs := keyV bl) g5
        have hie : (Try.prog.info? 43).map (·.size) = some (keyV eb).length := by rw [keyV_len, hen1]; kernel_rfl
        have hib : (Try.prog.info? 43).map (·.size) = some (keyV bl).length := by rw [keyV_len, hbl]; kernel_rfl
        have hq : ∀ W, (binOp .neq 43 (.agg (keyV eb).toArray) (.agg (keyV bl).toArray)).run Try.prog W = .ok (.bool (!decide (eb = bl))) W := fun W => by
          have h := run_neq_u8s (P := Try.prog) W (t := 43) (e := 5) (n := 128) Try.underlying43 Try.underlying5 (by kernel_rfl) (intsU eb) (intsU bl) (by unfold intsU; rw [List.length_map, hen1]) (by unfold intsU; rw [List.length_map, hbl])
          rw [← rowU_u8s, ← rowU_u8s] at h
          rw [show decide (eb = bl) = decide (intsU eb = intsU bl) from decide_eq_decide.2 ⟨fun h => by rw [h], intsU_inj⟩]
          exact h
        obtain ⟨dq, hdq⟩ : ∃ d, decide (eb = bl) = d := ⟨_, rfl⟩
        rw [hdq] at hq
        replace hdq := hid hdq
        clear e5 g5
        rcases hens with ⟨rfl, hg, he⟩ | ⟨rfl, hg⟩
        · cases dq with
          | true =>
            have hres : decS bl = some LL := by rw [hdc.out, if_pos ⟨hg, by rw [← he]; exact of_decide_eq_true hdq.out⟩]
            have hvn : Value.slice pb i cb ≠ .slice none 0 0 := fun h9 => by
              have := (goodL_len hg).1
              have h8 := (Value.slice.inj h9).2.1
              have h7 := hll.out
              omega
            replace hres := hid hres
            clear hg he hdc hll
            replace hvn := hid hvn
            replace o5 := hid o5
            go_wp2_with (first | refine wpList_load_mid_w (by rfl) 43 _ rfl nb 0 rfl (keyV eb) _ hre Try.underlying43 rfl hie ?_ | refine wpList_load_mid_w (by rfl) 43 _ rfl n₀ 0 rfl (keyV bl) _ hrb Try.underlying43 rfl hib ?_)
            go_ret2
            exact ⟨_, _, rfl, B5, by rw [hres.out]; exact ⟨o5.out, hvn.out, rfl⟩⟩
          | false =>
            have hres : decS bl = none := by rw [hdc.out, if_neg (fun h9 => of_decide_eq_false hdq.out (by rw [he]; exact h9.2))]
            replace hres := hid hres
            clear hg he hdc hll
            go_wp2_with (first | refine wpList_load_mid_w (by rfl) 43 _ rfl nb 0 rfl (keyV eb) _ hre Try.underlying43 rfl hie ?_ | refine wpList_load_mid_w (by rfl) 43 _ rfl n₀ 0 rfl (keyV bl) _ hrb Try.underlying43 rfl hib ?_)
            go_ret2
            exact ⟨_, _, rfl, B5, by rw [hres.out]; exact ⟨rfl, rfl⟩⟩
        · have hres : decS bl = none := by rw [hdc.out, if_neg (fun h9 => by rw [hg] at h9; cases h9.1)]
          replace hres := hid hres
          clear hg hdc hll
          go_wp2_with (fail)
          go_ret2
          exact ⟨_, _, rfl, B5, by rw [hres.out]; exact ⟨rfl, rfl⟩⟩
end Go.Proofs.Ytomgjapjeckokaa
namespace Go.Proofs.Ytomgjapjeckokaa
open Go.RowKit Go.Shelf Go.Lib

set_option maxRecDepth 100000 in
set_option maxHeartbeats 4000000 in
theorem rUnpack_any (bs : List (List UInt8)) (v : Value) (w : World) (hs : Sl w 128 keyV v bs) (hb : ∀ b ∈ bs, b.length = 128) (hl : bs.length ≤ 10000) :
    Calls Try.prog 13 #[v] w fun e w' => ∃ v' er, e = .returned (.tuple #[v', .int .i64 er]) ∧ Below w.heap.size w w' ∧ AnsU w' w.heap.size (unpS bs) v' er := by
  obtain ⟨i0, z, hi0, hz0, hz1, hz2, hz3⟩ := infoE_parts
  obtain ⟨n₀, hn₀⟩ : ∃ n, w.heap.size = n := ⟨_, rfl⟩
  obtain ⟨vp, vc, rfl, hlc⟩ := hs.shape
  have hsB : ∀ W, Below n₀ w W → Sl W 128 keyV (.slice vp bs.length vc) bs := fun W hB => (Kept.of_below (hn₀ ▸ hB : Below w.heap.size w W) 0).sl hs
  obtain ⟨L, hL⟩ : ∃ x, bs.length = x := ⟨_, rfl⟩
  rw [hL] at hsB hl ⊢
  rw [hn₀]
  have B0 : Below n₀ w w := Below.refl _ _
  have hn1 : n₀ ≤ w.heap.size := by omega
  have hLw : IntKind.i64.wrap ((L : Int) - 1) = (L : Int) - 1 := by rw [IntKind.wrap_i64]; omega
  replace hL := hid hL
  replace hsB := hid hsB
  clear hs
  go_enter Try.func13, Try.ntmps13
  go_wp2_with (fail)
  go_loopw [4, 5] (fun ov iv wr => ∃ (k : Nat) (acc : List Ent), k ≤ L ∧ iv = .int .i64 k ∧ unpTo bs k = some acc ∧ wr.ownsRow n₀ 48 35 ov acc.length (acc.flatMap encE) ∧ Below n₀ w wr) (fun _ iv _ => L - (RowKit.intOf iv).toNat)
  case atStart => exact ⟨0, [], Nat.zero_le _, rfl, rfl, World.ownsRow_nil _ _ _ _, B0⟩
  case round =>
    obtain ⟨k, acc, hkL, rfl, hacc, oW, qB⟩ := hrel
    clear B0
    obtain ⟨pb, cb, rfl, -, -⟩ := owns_shape oW
    obtain ⟨hal, hao⟩ := unpTo_ok hb (by rw [hL.out]; exact hkL) hacc
    have hzr := qB.size
    have hnr : n₀ ≤ wr.heap.size := by omega
    obtain ⟨AL, hAL⟩ : ∃ x, acc.length = x := ⟨_, rfl⟩
    rw [hAL] at oW hal ⊢
    replace hAL := hid hAL
    by_cases hlt : k < L
    · have hkI : (k : Int) < (L : Int) := by omega
      have qs := hsB.out wr qB
      obtain ⟨b2, hb2⟩ : ∃ e, bs[k]? = some e := ⟨_, List.getElem?_eq_getElem (by rw [hL.out]; omega)⟩
      have hbl := hb b2 (List.mem_of_getElem? hb2)
      obtain ⟨b', o', c', he', -, -, hc⟩ := qs.open (by rintro rfl; simp at hb2)
      obtain ⟨rfl, -, rfl⟩ := Value.slice.inj he'
      clear he'
      have hr2 := hc k b2 hb2
      have hgd : bs.getD k [] = b2 := by rw [List.getD_eq_getElem?_getD, hb2]; rfl
      have hstep : unpTo bs (k + 1) = (decS b2).bind fun p => if p.length < 3 ∧ k + 1 < L then none else some (acc ++ p) := by rw [unpTo, hacc, Option.bind_some, hgd, hL.out]
      have hi6 : (Try.prog.info? 43).map (·.size) = some (keyV b2).length := by rw [keyV_len, hbl]; kernel_rfl
      clear qs hc
      replace hstep := hid hstep
      clear hacc hb2 hgd
      have cD := hid (rDecode_any b2 wr hbl)
      go_wp2_with (refine wpList_load_mid rfl 43 _ rfl b' (o' + k * 128) rfl (keyV b2) _ hr2 Try.underlying43 rfl hi6 ?_)
      refine cD.out.mono ?_
      rintro e W6 ⟨v6, er6, rfl, b6, ans6⟩
      have oW6 := (Kept.of_below b6 0).owns oW
      have hB6 := qB.trans (b6.mono (by have := qB.size; omega))
      clear cD hr2 oW qB b6
      cases hd : decS b2 with
      | none =>
        rw [hd] at ans6
        obtain ⟨rfl, rfl⟩ := ans6
        have hres : unpS bs = none := by unfold unpS; rw [unpTo_stop (n := k + 1) (by rw [hstep.out, hd]; rfl) (by rw [hL.out]; omega)]; rfl
        replace hres := hid hres
        clear hstep hd
        go_wp2_with (fail)
        go_ret2
        exact ⟨_, _, rfl, hB6, by rw [hres.out]; exact ⟨rfl, rfl⟩⟩
      | some p =>
        rw [hd] at ans6
        obtain ⟨o6, hv6, rfl⟩ := ans6
        obtain ⟨hp3, hp1, hpo⟩ := decS_ok hbl hd
        have s6 := sl_of_owns (enc := encE) (fun x hx => by rw [encE_len, (hpo x hx).1]) o6
        obtain ⟨p6, c6, rfl, -, -⟩ := owns_shape o6
        have hep := encE_enc (fun x hx => (hpo x hx).1)
        have hst2 : unpTo bs (k + 1) = if p.length < 3 ∧ k + 1 < L then none else some (acc ++ p) := by rw [hstep.out, hd]; rfl
        obtain ⟨PN, hPN⟩ : ∃ x, p.length = x := ⟨_, rfl⟩
        rw [hPN] at hst2 hp3 hp1 ⊢
        have s6' : Sl W6 35 encE (.slice p6 PN c6) p := by rw [← hPN]; exact s6
        replace hPN := hid hPN
        clear hstep hd o6 s6 hv6
        by_cases hshort : PN < 3 ∧ k + 1 < L
        · have hres : unpS bs = none := by unfold unpS; rw [unpTo_stop (n := k + 1) (by rw [hst2, if_pos hshort]) (by rw [hL.out]; omega)]; rfl
          have e1 : (PN : Int) < 3 := by omega
          have e2 : (k : Int) + 1 < (L : Int) := by omega
          have e3 : IntKind.i64.wrap ((k : Int) + 1) = (k : Int) + 1 := by rw [IntKind.wrap_i64]; omega
          replace hres := hid hres
          clear hst2 hshort s6'
          go_wp2_with (fail)
          go_ret2
          exact ⟨_, _, rfl, hB6, by rw [hres.out]; exact ⟨rfl, rfl⟩⟩
        · rw [if_neg hshort] at hst2
          have hcs : ((PN : Int) < 3 ∧ ¬ (k : Int) + 1 < (L : Int)) ∨ ¬ (PN : Int) < 3 := by omega
          clear hshort
          replace hst2 := hid hst2
          have hz6 : n₀ ≤ W6.heap.size := by have := hB6.size; omega
          replace s6' := hid s6'
          replace hpo := hid hpo
          have e3 : IntKind.i64.wrap ((k : Int) + 1) = (k : Int) + 1 := by rw [IntKind.wrap_i64]; omega
          rcases hcs with ⟨e1, e2⟩ | e1
          all_goals
            go_wp2_with (at_builtin; go_must (refine wpList_append_sl rfl _ _ 22 rfl n₀ 48 i0 z 35 56 Try.underlying22 hi0 hz0 hz1 hz2 hz3 (by decide) _ _ _ rfl oW6 encE _ p rfl s6'.out hep (by unfold maxLen; rw [hPN.out]; omega) (by rw [hPN.out]; omega) hz6 ?_; intro v7 w7 o7 hg7 n7))
            have B7 := hB6.grown hg7 hz6 (fun j e9 => own_baseI oW6 e9)
            have o8 : w7.ownsRow n₀ 48 35 v7 (acc ++ p).length ((acc ++ p).flatMap encE) := by rw [List.length_append, hAL.out, List.flatMap_append]; exact o7
            replace o8 := hid o8
            replace B7 := hid B7
            clear o7 hg7 n7 oW6 hB6
            refine ⟨?_, ?_⟩
            · first | exact ⟨k + 1, acc ++ p, by omega, by go_num, hst2.out, o8.out, B7.out⟩ | ((repeat apply Exists.intro); refine ⟨?_, rfl⟩; exact ⟨k + 1, acc ++ p, by omega, by go_num, hst2.out, o8.out, B7.out⟩)
            · simp [RowKit.intOf]; omega
    · obtain rfl : k = L := by omega
      have hres0 : unpS bs = if rGoodL acc = true then some acc else none := by unfold unpS; rw [hL.out, hacc, Option.bind_some, goodI_eq]
      have sA := sl_of_owns (enc := encE) (l := acc) (fun x hx => by rw [encE_len, (hao x hx).1]) (by rw [hAL.out]; exact oW)
      have cG := hid (rGood_any acc (.slice pb AL cb) wr sA (fun x hx => (hao x hx).1))
      obtain ⟨gb, hgb⟩ : ∃ x, rGoodL acc = x := ⟨_, rfl⟩
      rw [hgb] at cG hres0
      clear hacc sA hgb
      replace hres0 := hid hres0
      go_wp2_with (fail)
      refine cG.out.mono ?_
      rintro e w9 ⟨rfl, b9⟩
      have o9 := (Kept.of_below b9 0).owns oW
      have B9 := qB.trans (b9.mono hnr)
      clear cG oW qB b9
      cases gb with
      | true =>
        replace o9 := hid o9
        go_wp2_with (fail)
        go_ret2
        exact ⟨_, _, rfl, B9, by rw [show unpS bs = some acc by rw [hres0.out]; rfl]; exact ⟨by rw [hAL.out]; exact o9.out, rfl⟩⟩
      | false =>
        clear o9
        go_wp2_with (fail)
        go_ret2
        exact ⟨_, _, rfl, B9, by rw [show unpS bs = none by rw [hres0.out]; rfl]; exact ⟨rfl, rfl⟩⟩
end Go.Proofs.Ytomgjapjeckokaa
namespace Go.Proofs.Ytomgjapjeckokaa
open Go.RowKit Go.Shelf Go.Lib

section
variable {P : Program}
theorem run_slice_lit (W : World) (t e : TypeId) (K : Nat) (hu : P.underlying t = some (.slice e)) (hK : (P.info? e).map (·.size) = some K) (a : Option Addr) (L c : Nat) (lo hi : Option Value) (l h : Nat)
    (hb : (Instr.sliceBounds true L c lo hi none).run P W = .ok (l, h, c) W) : (Instr.sliceAt t (.slice a L c) lo hi none).run P W = .ok (.slice (if c = l then a else a.map (·.add (l * K))) (h - l) (c - l)) W := by
  obtain ⟨i, hi0, hi1⟩ := Option.map_eq_some_iff.1 hK
  have he : P.elem t = e := by simp [Program.elem, hu]
  rw [run_sliceAt_slice _ t _ _ _ _ (by rw [he]; exact hu)]
  simp [Instr.slice, run_underlying hu, hb, sizeOf, typeInfo, hi0, hi1]
theorem slice_take {α : Type} {enc : α → List Value} (t e : TypeId) (K : Nat) (hu : P.underlying t = some (.slice e)) (hK : (P.info? e).map (·.size) = some K) {v : Value} {l : List α} {k : Nat} (hk : k ≤ l.length) {W0 : World} (h0 : Sl W0 K enc v l) :
    ∃ s, (∀ W, (Instr.sliceAt t v none (some (.int .i64 k)) none).run P W = .ok s W) ∧ (∀ W, Sl W K enc v l → Sl W K enc s (l.take k)) ∧ ∃ p c, s = .slice p k c := by
  obtain ⟨a, c, rfl, hc⟩ : ∃ a c, v = .slice a l.length c ∧ l.length ≤ c := by
    rcases h0 with ⟨rfl, rfl⟩ | ⟨a, c, rfl, h1, -⟩
    · exact ⟨none, 0, rfl, Nat.le_refl _⟩
    · exact ⟨some a, c, rfl, h1⟩
  refine ⟨.slice a k c, fun W => ?_, fun W h => ?_, a, c, rfl⟩
  · have hb : (Instr.sliceBounds true l.length c none (some (.int .i64 (k : Int))) none).run P W = .ok (0, k, c) W := by
      have h9 : (k : Int) ≤ (c : Int) := by omega
      simp [Instr.sliceBounds, run_sliceBound _ _ _ _ _ (show (0 : Int) ≤ (k : Int) by omega) h9]
    rw [run_slice_lit W t e K hu hK a _ c _ _ 0 k hb]
    have : a.map (fun x => x.add 0) = a := by
      cases a with
      | none => rfl
      | some x => rw [Option.map_some]; unfold Addr.add; rw [if_pos rfl]
    split <;> simp [this]
  · have hlk : (l.take k).length = k := by simp; omega
    rcases h with ⟨h, rfl⟩ | ⟨a', cap, h, h1, h2, h3, h4⟩
    · cases h
      simp at hk
      subst hk
      exact .inl ⟨rfl, rfl⟩
    · simp only [Value.slice.injEq] at h
      obtain ⟨rfl, -, rfl⟩ := h
      refine .inr ⟨a', c, by rw [hlk], by rw [hlk]; omega, h2, fun hne => h3 (by rintro rfl; simp at hne), fun i x hx => h4 i x ?_⟩
      rw [List.getElem?_take] at hx
      split at hx
      · exact hx
      · cases hx
end
theorem infoI_parts : ∃ i0, Try.prog.info? 3 = some i0 ∧ i0.zero = some (.int .i64 0) ∧ i0.size = 1 ∧ i0.bytes = 8 := by
  have h : (Try.prog.info? 3).map (fun i => (i.zero, i.size, i.bytes)) = some (some (.int .i64 0), 1, 8) := by kernel_rfl
  obtain ⟨i0, h1, h2⟩ := Option.map_eq_some_iff.1 h
  simp only [Prod.mk.injEq] at h2
  exact ⟨i0, h1, h2.1, h2.2.1, h2.2.2⟩
/-- a part of a slice, in a plain region -/
theorem wpList_slice {P : Program} {ops : Array Oper} {rest : List Oper} {op : Oper} {a : Act} {w : World} {Q : Exit → Act → World → Prop} (hgd : op.guard = none) (t : TypeId) (x : Operand) (lo hi : Option Operand) (ho : op.op = .slice t x lo hi none) (v : Value)
    (h : ∀ w, (Instr.sliceAt t (a.eval x) (lo.map a.eval) (hi.map a.eval) none).run P w = .ok v w) (hk : wpList P ops Q rest (a.put op.dst v) w) : wpList P ops Q (op :: rest) a w :=
  wpList_yield hgd v (by
    unfold execOp
    simp only [ho, Sem.run_bind, Option.map_none, h w, Result.andThen_ok]; rfl) hk
end Go.Proofs.Ytomgjapjeckokaa
namespace Go.Proofs.Ytomgjapjeckokaa
open Go.RowKit Go.Shelf Go.Lib

section
variable {P : Program}
theorem slice_mid (t e : TypeId) (K : Nat) (hu : P.underlying t = some (.slice e)) (hK : (P.info? e).map (·.size) = some K) {b o L c J E : Nat} (h1 : J < E) (h2 : E ≤ c) (W : World) :
    (Instr.sliceAt t (.slice (some ⟨b, o, none⟩) L c) (some (.int .i64 J)) (some (.int .i64 E)) none).run P W = .ok (.slice (some ⟨b, o + J * K, none⟩) (E - J) (c - J)) W := by
  have hb : (Instr.sliceBounds true L c (some (.int .i64 (J : Int))) (some (.int .i64 (E : Int))) none).run P W = .ok (J, E, c) W := by
    have h9 : (E : Int) ≤ (c : Int) := by omega
    have h8 : (J : Int) ≤ (E : Int) := by omega
    simp [Instr.sliceBounds, run_sliceBound _ _ _ _ _ (show (0 : Int) ≤ (E : Int) by omega) h9, run_sliceBound _ _ _ _ _ (show (0 : Int) ≤ (J : Int) by omega) h8]
  rw [run_slice_lit W t e K hu hK _ _ c _ _ J E hb, if_neg (by omega), Option.map_some]
  unfold Addr.add
  split
  · rename_i h0
    rw [h0]; rfl
  · rfl
end
theorem sl_chunk2 {w : World} {b o L cap J x m : Nat} {l : List Ent} (hs : Sl w 35 encE (.slice (some ⟨b, o, none⟩) L cap) l) (hJ : J = 3 * x) (hx : J < L) (hm : m = (chunkAt l x).length) (hc : J + m ≤ cap) : Sl w 35 encE (.slice (some ⟨b, o + J * 35, none⟩) m (cap - J)) (chunkAt l x) := by
  subst hm hJ
  rcases hs with ⟨h, -⟩ | ⟨a, c, h, h1, h2, h3, h4⟩
  · cases h
  · simp only [Value.slice.injEq, Option.some.injEq] at h
    obtain ⟨rfl, rfl, rfl⟩ := h
    refine Sl.mk (by omega) (by omega) fun i y hy => ?_
    rw [chunk_get] at hy
    split at hy
    · have := h4 _ _ hy
      dsimp only at this
      rwa [show o + (3 * x + i) * 35 = o + 3 * x * 35 + i * 35 by omega] at this
    · cases hy
theorem leafs_succ (l : List Ent) (k : Nat) : leafsS l (k + 1) = leafsS l k ++ [sealB (encB (chunkAt l k))] := by
  unfold leafsS
  rw [List.range_succ, List.map_append]; rfl
theorem leafs_len2 (l : List Ent) (k : Nat) : (leafsS l k).length = k := by unfold leafsS; simp

set_option maxRecDepth 100000 in
set_option maxHeartbeats 8000000 in
theorem rPack_any (l : List Ent) (places : List Int) (v pv : Value) (w : World) (hs : Sl w 35 encE v l) (hp : Sl w 1 encI pv places) (hk : ∀ e ∈ l, e.key.length = 32) (hl : l.length ≤ 1000000) (hpl : places.length ≤ 1000000) :
    Calls Try.prog 11 #[v, pv] w fun e w' => ∃ v' er, e = .returned (.tuple #[v', .int .i64 er]) ∧ Below w.heap.size w w' ∧ AnsP w' w.heap.size (packS l places) v' er := by
  obtain ⟨i0, z, hi0, hz0, hz1, hz2, hz3⟩ := infoB_parts
  obtain ⟨n₀, hn₀⟩ : ∃ n, w.heap.size = n := ⟨_, rfl⟩
  have cG := hid (rGood_any l v w hs hk)
  obtain ⟨vp, vc, rfl, hlc⟩ := hs.shape
  obtain ⟨qp, qc, rfl, -⟩ := hp.shape
  have hsB : ∀ W, Below n₀ w W → Sl W 35 encE (.slice vp l.length vc) l := fun W hB => (Kept.of_below (hn₀ ▸ hB : Below w.heap.size w W) 0).sl hs
  have hpB : ∀ W, Below n₀ w W → Sl W 1 encI (.slice qp places.length qc) places := fun W hB => (Kept.of_below (hn₀ ▸ hB : Below w.heap.size w W) 0).sl hp
  have hpk : packS l places = if rGoodL l = true then
    if (places.length : Int) ≠ sizeS l.length then ([], 1) else if l = [] then ([], 0) else
      if rootOk (places.take (places.length - 1)) = true then (leafsS l (nLeaf l.length) ++ [sealB (rootB (places.take (places.length - 1)))], 0) else ([], 11)
    else ([], 11) := by unfold packS; rw [goodI_eq]
  have hgc : rGoodL l = true → ∀ j, 3 * j < l.length → goodL (chunkAt l j) = true := fun h j hj => chunk_good (by rw [goodI_eq]; exact h) hj
  obtain ⟨gb, hgb⟩ : ∃ x, rGoodL l = x := ⟨_, rfl⟩
  rw [hgb] at cG hpk hgc
  replace hgb := hid hgb
  replace hsB := hid hsB
  replace hpB := hid hpB
  replace hk := hid hk
  obtain ⟨PL, hPL⟩ : ∃ x, places.length = x := ⟨_, rfl⟩
  obtain ⟨L, hL⟩ : ∃ x, l.length = x := ⟨_, rfl⟩
  rw [hL] at cG hsB hl hpk hgc ⊢
  rw [hPL] at hpB hpl hpk ⊢
  rw [hn₀]
  replace hgc := hid hgc
  replace hpk := hid hpk
  clear hs hp hlc
  go_enter Try.func11, Try.ntmps11
  go_wp2_with (fail)
  refine cG.out.mono ?_
  rintro e W2 ⟨rfl, b2⟩
  have B2 : Below n₀ w W2 := hn₀ ▸ b2
  clear b2 cG
  cases gb with
  | false =>
    have hres : packS l places = ([], 11) := by rw [hpk.out, if_neg (by simp)]
    replace hres := hid hres
    clear hpk
    go_wp2_with (fail)
    go_ret2
    exact ⟨_, _, rfl, B2, AnsP.none _ _ hres.out⟩
  | true =>
    have cS := hid (rSize_any (L : Int) W2 (by omega) (by omega))
    obtain ⟨sz, hsz⟩ : ∃ x, sizeS (L : Int) = x := ⟨_, rfl⟩
    have hpk2 := hpk.out
    rw [if_pos rfl, hsz] at hpk2
    rw [hsz] at cS
    clear hpk
    replace hpk2 := hid hpk2
    replace hsz := hid hsz
    go_wp2_with (fail)
    refine cS.out.mono ?_
    rintro e W3 ⟨rfl, rfl⟩
    clear cS
    by_cases hps : (PL : Int) = sz
    · subst hps
      by_cases hL0 : L = 0
      · subst hL0
        have hres : packS l places = ([], 0) := by rw [hpk2.out, if_neg (by simp), if_pos (List.length_eq_zero_iff.1 hL)]
        replace hres := hid hres
        replace hL := hid hL
        replace hPL := hid hPL
        clear hpk2 hsz
        go_wp2_with (fail)
        go_ret2
        exact ⟨_, _, rfl, B2, AnsP.none _ _ hres.out⟩
      · have hLI : ¬ (L : Int) = 0 := by omega
        have hl0 : l ≠ [] := fun e => hL0 (by rw [← hL, e]; rfl)
        obtain ⟨b, o, c9, he9, hc1, hc2, -⟩ := (hsB.out _ B2).open hl0
        obtain ⟨rfl, -, rfl⟩ := Value.slice.inj he9
        clear he9
        rw [hL] at hc1
        have hszv : PL = nLeaf L + 1 := by
          have h9 := hsz.out
          unfold sizeS at h9
          rw [if_neg (by omega)] at h9
          unfold nLeaf
          omega
        have hnl : 1 ≤ nLeaf L ∧ 3 * (nLeaf L - 1) < L ∧ L ≤ 3 * nLeaf L := by unfold nLeaf; omega
        obtain ⟨NL, hNL⟩ : ∃ x, nLeaf L = x := ⟨_, rfl⟩
        have hpk3 : packS l places = if rootOk (places.take NL) = true then (leafsS l NL ++ [sealB (rootB (places.take NL))], 0) else ([], 11) := by
          rw [hpk2.out, if_neg (by simp), if_neg hl0, hNL, show PL - 1 = NL by omega]
        rw [hNL] at hszv hnl
        obtain ⟨hnl1, hnl2, hnl3⟩ := hnl
        clear hNL hpk2 hsz
        have hwP : IntKind.i64.wrap ((PL : Int) - 1) = (NL : Int) := by rw [IntKind.wrap_i64]; omega
        replace hL := hid hL
        replace hPL := hid hPL
        replace hpk3 := hid hpk3
        replace hszv := hid hszv
        go_wp2_with (fail)
        go_loopw [6, 7] (fun ov iv wr => ∃ k J : Nat, k ≤ NL ∧ J = 3 * k ∧ iv = .int .i64 J ∧ wr.ownsRow n₀ 43 128 ov k ((leafsS l k).flatMap keyV) ∧ Below n₀ w wr) (fun _ iv _ => L + 3 - (RowKit.intOf iv).toNat)
        case atStart => exact ⟨0, 0, Nat.zero_le _, rfl, rfl, World.ownsRow_nil _ _ _ _, B2⟩
        case round =>
          obtain ⟨k, J, hkN, hJ, rfl, oW, qB⟩ := hrel
          clear B2
          obtain ⟨pb, cb, rfl, -, -⟩ := owns_shape oW
          by_cases hJL : J < L
          · have hJI : (J : Int) < (L : Int) := by omega
            have hk1 : k + 1 ≤ NL := by omega
            obtain ⟨J3, hJ3⟩ : ∃ x, J + 3 = x := ⟨_, rfl⟩
            have hw3 : IntKind.i64.wrap ((J : Int) + 3) = (J3 : Int) := by rw [IntKind.wrap_i64]; omega
            have hJ3' : J3 = 3 * (k + 1) := by omega
            obtain ⟨E, hE⟩ : ∃ x, min J3 L = x := ⟨_, rfl⟩
            have hmI : min (J3 : Int) (L : Int) = (E : Int) := by omega
            have hJE : J < E := by omega
            have hEL : E ≤ L := by omega
            have hEc : E ≤ vc := by omega
            obtain ⟨m, hm⟩ : ∃ x, E - J = x := ⟨_, rfl⟩
            have sW := hsB.out wr qB
            have hcl : m = (chunkAt l k).length := by rw [chunk_len (by rw [hL.out]; omega), hL.out]; omega
            have hsv : ∀ W, (Instr.sliceAt 22 (.slice (some ⟨b, o, none⟩) L vc) (some (.int .i64 J)) (some (.int .i64 E)) none).run Try.prog W = .ok (.slice (some ⟨b, o + J * 35, none⟩) m (vc - J)) W := fun W => by
              rw [← hm]; exact slice_mid 22 48 35 Try.underlying22 (by kernel_rfl) hJE hEc W
            have sC := sl_chunk2 sW hJ hJL hcl (by omega)
            have cE := hid (rEncode_any (chunkAt l k) _ wr sC (fun e he => hk.out e (chunk_mem he)) (by omega))
            have hgo := hgc.out (by simp) k (by omega)
            obtain ⟨eb, heb⟩ : ∃ x, sealB (encB (chunkAt l k)) = x := ⟨_, rfl⟩
            have hen : encS (chunkAt l k) = (eb, 0) := by unfold encS; rw [if_pos hgo, heb]
            rw [hen] at cE
            have hst : leafsS l (k + 1) = leafsS l k ++ [eb] := by rw [leafs_succ, heb]
            have ebl : eb.length = 128 := by
              rw [← heb]
              refine sealB_len ?_
              unfold encB
              rw [List.length_cons, List.length_cons, entsB_len (fun e he => hk.out e (chunk_mem he)), ← hcl]; omega
            replace hst := hid hst
            replace hsv := hid hsv
            replace hJ := hid hJ
            replace hJ3 := hid hJ3
            replace hJ3' := hid hJ3'
            dsimp only at cE
            clear sW sC hcl hgo heb hen hE hm
            go_wp2_with (refine wpList_slice rfl 22 _ _ _ rfl _ hsv.out ?_)
            refine cE.out.mono ?_
            rintro e W4 ⟨rfl, b4⟩
            have o4 := (Kept.of_below b4 0).owns oW
            have B4 := qB.trans (b4.mono (by have := qB.size; omega))
            obtain ⟨ne, hne⟩ : ∃ n, W4.heap.size = n := ⟨_, rfl⟩
            have h1 := World.alloc_heap_new W4 (.cells Try.zeroCells43 43)
            rw [hne] at h1
            have ht1 : (W4.alloc (.cells Try.zeroCells43 43)).there ne 0 (rowU eb).size := there_blk h1 (by rw [rowU_size, ebl]; kernel_rfl)
            have u1 := (Upd.refl h1).setCells (rowU eb).toList (by rw [Array.length_toList, rowU_size, ebl]; kernel_rfl)
            have hne1 : (Value.slice pb k cb).ownBlock ≠ some ne := fun e9 => by have := own_ltI o4 e9; omega
            have o5 := upd_owns_ne u1 hne1 ((Kept.alloc 0 W4 (.cells Try.zeroCells43 43)).owns o4)
            have B5 := u1.below (B4.alloc (by have := B4.size; omega) (.cells Try.zeroCells43 43)) (by have := B4.size; omega)
            have e5 := u1.here
            rw [Array.toArray_toList] at e5
            have z5 := u1.size
            rw [World.size_alloc, hne] at z5
            have hi7 : (Try.prog.info? 43).map (·.size) = some (rowU eb).size := by rw [rowU_size, ebl]; kernel_rfl
            have hi8 : (Try.prog.info? 43).map (·.size) = some (keyV eb).length := by rw [keyV_len, ebl]; kernel_rfl
            clear u1 h1 hne1 oW qB b4 o4 B4 cE
            go_upto_region 12 with (refine wpList_store_mid rfl 43 _ _ rfl ne 0 (rowU eb) rfl rfl ht1 hi7 (one_rowU _) ?_)
            try simp only [Act.put]
            obtain ⟨W5, hW5⟩ : ∃ W : World, W = (W4.alloc (.cells Try.zeroCells43 43)).setCells ne 0 (rowU eb).toList := ⟨_, rfl⟩
            rw [← hW5] at o5 B5 e5 z5 ⊢
            clear hW5 ht1
            obtain ⟨N, hN⟩ : ∃ n, W5.heap.size = n := ⟨_, rfl⟩
            have hr8 := range_blk (cs := keyV eb) e5
            have k8 := Kept.alloc 0 W5 (.cells (rowU eb) 43)
            have r8 := World.alloc_heap_new W5 (.cells (rowU eb) 43)
            rw [hN] at r8
            have sL := sl_one128 r8
            have oL := k8.owns o5
            have B8 := B5.alloc (by have := B5.size; omega) (.cells (rowU eb) 43)
            have hz8 : n₀ ≤ (W5.alloc (.cells (rowU eb) 43)).heap.size := by have := B8.size; omega
            obtain ⟨W8, hW8⟩ : ∃ W : World, W = W5.alloc (.cells (rowU eb) 43) := ⟨_, rfl⟩
            rw [← hW8] at sL oL B8 hz8
            clear k8 r8 o5 B5 e5
            go_wp2_with (first | refine wpList_load_mid rfl 43 _ rfl ne 0 rfl (keyV eb) _ hr8 Try.underlying43 rfl hi8 ?_ | (refine wpList_build1 rfl 24 43 _ rfl Try.underlying24 hi0 hz0 (rowU eb) rfl (by rw [rowU_size, ebl, hz1]) (by rw [hz1]; decide) ?_; rw [← hW8]; (try rw [hN])) | (at_builtin; go_must (refine wpList_append_sl rfl _ _ 24 rfl n₀ 43 i0 z 128 128 Try.underlying24 hi0 hz0 hz1 hz2 hz3 (by decide) _ _ _ rfl oL keyV _ [eb] rfl sL (keyV_enc ebl) (by unfold maxLen; simp only [List.length_singleton]; omega) (by simp only [List.length_singleton]; omega) hz8 ?_; intro v9 w9 o9 hg9 n9)))
            have o10 : w9.ownsRow n₀ 43 128 v9 (k + 1) ((leafsS l (k + 1)).flatMap keyV) := by rw [hst.out, List.flatMap_append]; exact o9
            have B9 := B8.grown hg9 hz8 (fun j e9 => own_baseI oL e9)
            replace o10 := hid o10
            replace B9 := hid B9
            clear o9 hg9 n9 oL sL B8 hst
            refine ⟨?_, ?_⟩
            · first | exact ⟨k + 1, hk1, by have h9 := hJ3'.out; omega, o10.out, B9.out⟩ | exact ⟨k + 1, J3, hk1, hJ3'.out, by go_num, o10.out, B9.out⟩ | ((repeat apply Exists.intro); refine ⟨?_, rfl⟩; exact ⟨k + 1, J3, hk1, hJ3'.out, by go_num, o10.out, B9.out⟩)
            · have h9 := hJ3.out
              simp [RowKit.intOf]; omega
          · obtain rfl : k = NL := by omega
            have hkb : k ≤ 1000000 := by omega
            have hJI : ¬ (J : Int) < (L : Int) := by omega
            have sP := hpB.out wr qB
            obtain ⟨sv, hsv, hsS, p9, c9, rfl⟩ := slice_take (P := Try.prog) (enc := encI) 23 3 1 Try.underlying23 (by kernel_rfl) (k := k) (by have h9 := hszv.out; rw [hPL.out]; omega) sP
            have sQ := hsS wr sP
            have cR := hid (rRoot_any (places.take k) _ wr sQ)
            have hrt : ((rootS (places.take k)).2 = 0 ∧ rootOk (places.take k) = true ∧ (rootS (places.take k)).1 = sealB (rootB (places.take k))) ∨ ((rootS (places.take k)).2 = 11 ∧ rootOk (places.take k) = false) := by
              unfold rootS
              cases hg : rootOk (places.take k) with
              | true => exact .inl ⟨rfl, rfl, rfl⟩
              | false => exact .inr ⟨rfl, rfl⟩
            have ebl0 : (rootS (places.take k)).1.length = 128 := by
              unfold rootS
              split
              · rename_i hg
                refine sealB_len ?_
                unfold rootOk at hg
                simp only [Bool.and_eq_true, decide_eq_true_eq] at hg
                unfold rootB
                rw [List.length_cons, List.length_cons, List.length_map]; omega
              · rfl
            obtain ⟨en, hen⟩ : ∃ x, rootS (places.take k) = x := ⟨_, rfl⟩
            rw [hen] at cR hrt ebl0
            obtain ⟨eb, er⟩ := en
            dsimp only at cR hrt ebl0
            have ebl := ebl0
            replace hrt := hid hrt
            replace hsv := hid hsv
            clear sP hsS sQ hen ebl0 hJ hnl1 hnl2 hnl3
            go_wp2_with (refine wpList_slice rfl 23 _ _ _ rfl _ hsv.out ?_)
            refine cR.out.mono ?_
            rintro e W4 ⟨rfl, b4⟩
            have o4 := (Kept.of_below b4 0).owns oW
            have B4 := qB.trans (b4.mono (by have := qB.size; omega))
            obtain ⟨ne, hne⟩ : ∃ n, W4.heap.size = n := ⟨_, rfl⟩
            have h1 := World.alloc_heap_new W4 (.cells Try.zeroCells43 43)
            rw [hne] at h1
            have ht1 : (W4.alloc (.cells Try.zeroCells43 43)).there ne 0 (rowU eb).size := there_blk h1 (by rw [rowU_size, ebl]; kernel_rfl)
            have u1 := (Upd.refl h1).setCells (rowU eb).toList (by rw [Array.length_toList, rowU_size, ebl]; kernel_rfl)
            have hne1 : (Value.slice pb k cb).ownBlock ≠ some ne := fun e9 => by have := own_ltI o4 e9; omega
            have o5 := upd_owns_ne u1 hne1 ((Kept.alloc 0 W4 (.cells Try.zeroCells43 43)).owns o4)
            have B5 := u1.below (B4.alloc (by have := B4.size; omega) (.cells Try.zeroCells43 43)) (by have := B4.size; omega)
            have e5 := u1.here
            rw [Array.toArray_toList] at e5
            have z5 := u1.size
            rw [World.size_alloc, hne] at z5
            have hi7 : (Try.prog.info? 43).map (·.size) = some (rowU eb).size := by rw [rowU_size, ebl]; kernel_rfl
            have hi8 : (Try.prog.info? 43).map (·.size) = some (keyV eb).length := by rw [keyV_len, ebl]; kernel_rfl
            clear u1 h1 hne1 oW qB b4 o4 B4 cR
            go_upto_region 14 with (refine wpList_store_mid rfl 43 _ _ rfl ne 0 (rowU eb) rfl rfl ht1 hi7 (one_rowU _) ?_)
            try simp only [Act.put]
            obtain ⟨W5, hW5⟩ : ∃ W : World, W = (W4.alloc (.cells Try.zeroCells43 43)).setCells ne 0 (rowU eb).toList := ⟨_, rfl⟩
            rw [← hW5] at o5 B5 e5 z5 ⊢
            clear hW5 ht1
            obtain ⟨N, hN⟩ : ∃ n, W5.heap.size = n := ⟨_, rfl⟩
            have hr8 := range_blk (cs := keyV eb) e5
            have k8 := Kept.alloc 0 W5 (.cells (rowU eb) 43)
            have r8 := World.alloc_heap_new W5 (.cells (rowU eb) 43)
            rw [hN] at r8
            have sL := sl_one128 r8
            have oL := k8.owns o5
            have B8 := B5.alloc (by have := B5.size; omega) (.cells (rowU eb) 43)
            have hz8 : n₀ ≤ (W5.alloc (.cells (rowU eb) 43)).heap.size := by have := B8.size; omega
            obtain ⟨W8, hW8⟩ : ∃ W : World, W = W5.alloc (.cells (rowU eb) 43) := ⟨_, rfl⟩
            rw [← hW8] at sL oL B8 hz8
            have B5' := hid B5
            clear k8 r8 o5 B5 e5
            rcases hrt.out with ⟨rfl, hg, he⟩ | ⟨rfl, hg⟩
            · have hres : packS l places = (leafsS l k ++ [eb], 0) := by rw [hpk3.out, if_pos hg, he]
              replace hres := hid hres
              clear hg he hrt hpk3
              go_wp2_with (first | refine wpList_load_mid rfl 43 _ rfl ne 0 rfl (keyV eb) _ hr8 Try.underlying43 rfl hi8 ?_ | (refine wpList_build1 rfl 24 43 _ rfl Try.underlying24 hi0 hz0 (rowU eb) rfl (by rw [rowU_size, ebl, hz1]) (by rw [hz1]; decide) ?_; rw [← hW8]; (try rw [hN])) | (at_builtin; go_must (refine wpList_append_sl rfl _ _ 24 rfl n₀ 43 i0 z 128 128 Try.underlying24 hi0 hz0 hz1 hz2 hz3 (by decide) _ _ _ rfl oL keyV _ [eb] rfl sL (keyV_enc ebl) (by unfold maxLen; simp only [List.length_singleton]; omega) (by simp only [List.length_singleton]; omega) hz8 ?_; intro v9 w9 o9 hg9 n9)))
              have B9 := B8.grown hg9 hz8 (fun j e9 => own_baseI oL e9)
              have o10 : w9.ownsRow n₀ 43 128 v9 (leafsS l k ++ [eb]).length ((leafsS l k ++ [eb]).flatMap keyV) := by
                rw [List.length_append, leafs_len2, List.flatMap_append]; exact o9
              replace o10 := hid o10
              replace B9 := hid B9
              clear o9 hg9 n9 oL sL B8
              try go_wp2_with (fail)
              go_ret2
              exact ⟨_, _, rfl, B9.out, by rw [hres.out]; exact ⟨o10.out, rfl⟩⟩
            · have hres : packS l places = ([], 11) := by rw [hpk3.out, if_neg (by rw [hg]; simp)]
              replace hres := hid hres
              clear hg hrt hpk3
              go_wp2_with (fail)
              go_ret2
              exact ⟨_, _, rfl, B5'.out, AnsP.none _ _ hres.out⟩
    · have hres : packS l places = ([], 1) := by rw [hpk2.out, if_pos (by omega)]
      replace hres := hid hres
      clear hpk2
      go_wp2_with (fail)
      go_ret2
      exact ⟨_, _, rfl, B2, AnsP.none _ _ hres.out⟩
end Go.Proofs.Ytomgjapjeckokaa
namespace Go.Proofs.Ytomgjapjeckokaa
open Go.RowKit

theorem take_succ_eq {α : Type} [DecidableEq α] {a b : List α} {k : Nat} (ha : k < a.length) (hb : k < b.length) :
    a.take (k + 1) = b.take (k + 1) ↔ a.take k = b.take k ∧ a[k] = b[k] := by
  rw [List.take_succ_eq_append_getElem ha, List.take_succ_eq_append_getElem hb]
  constructor
  · intro h
    have := List.append_inj h (by simp; omega)
    exact ⟨this.1, by simpa using this.2⟩
  · rintro ⟨h1, h2⟩; rw [h1, h2]

set_option maxHeartbeats 400000 in
theorem Ints_any (w : World) (va vb : Value) (a b : List Int) (ha : Sl w 1 encI va a) (hb : Sl w 1 encI vb b) :
    Calls Try.prog 20 #[va, vb] w fun e w' => e = .returned (.bool (decide (a = b))) ∧ ∃ n, w' = w.drewN n := by
  by_cases hl : a.length = b.length
  · by_cases h0 : a = []
    · subst h0
      obtain ⟨pa, ca, rfl, _⟩ := ha.shape
      obtain ⟨pb, cb, rfl, _⟩ := hb.shape
      obtain rfl : b = [] := by simpa using hl.symm
      go_enter Try.func20, Try.ntmps20
      go_wp2
      go_loopw [4, 5] (fun r i wr => r = .bool false ∧ i = .int .i64 0 ∧ wr = w) (fun _ _ _ => 0)
      case atStart => exact ⟨rfl, rfl, rfl⟩
      case round =>
        obtain ⟨rfl, rfl, rfl⟩ := hrel
        go_wp2
        go_ret
        exact ⟨ret_bool (by simp), 0, rfl⟩
    · obtain ⟨ab, ao, ac, rfl, ha1, ha2, ha3⟩ := ha.open h0
      obtain ⟨bb, bo, bc, rfl, hb1, hb2, hb3⟩ := hb.open (by rintro rfl; simp at hl; exact h0 hl)
      unfold maxLen at ha2 hb2
      have hl' : (a.length : Int) = b.length := by omega
      have hne : (((a.length : Int)) != (b.length : Int)) = false := by simp [hl]
      have Hl := hid hl
      clear hl hl' h0
      go_enter Try.func20, Try.ntmps20
      go_wp2
      go_loopw [4, 5] (fun r i wr => ∃ k n : Nat, r = .bool false ∧ k ≤ a.length ∧ i = .int .i64 k ∧ a.take k = b.take k ∧ wr = w.drewN n) (fun _ i _ => a.length - (intOf i).toNat)
      case atStart => exact ⟨0, 0, rfl, Nat.zero_le _, rfl, rfl, rfl⟩
      case round =>
        obtain ⟨k, n, rfl, hk, rfl, ht, rfl⟩ := hrel
        have Ht := hid ht
        clear ht
        by_cases hlt : k < a.length
        · have hlt' : k < b.length := by rw [← Hl.out]; exact hlt
          have c1 := rangeAt_one (ha3 k a[k] (by simp))
          have c2 := rangeAt_one (hb3 k b[k] (by simp))
          simp only [Nat.mul_one] at c1 c2
          have hts := hid (take_succ_eq hlt hlt')
          have Hal := hid ha3
          have Hbl := hid hb3
          clear ha3 hb3
          generalize a[k] = x at *
          generalize b[k] = y at *
          by_cases hxy : x = y
          · subst hxy
            have q : (x != x) = false := by simp
            have k1 : (k : Int) < (b.length : Int) := by omega
            have k2 : (k : Int) < (a.length : Int) := by omega
            go_wp2
            go_quiet (fail)
            go_wp2
            go_roundw
            case rel => exact ⟨k + 1, _, rfl, by omega, by go_num, hts.out.2 ⟨Ht.out, by trivial⟩, by first | rfl | exact World.drewN_drewN ..⟩
            case measure => simp [intOf]; omega
          · have q : (x != y) = true := by simpa using hxy
            have k1 : (k : Int) < (b.length : Int) := by omega
            have k2 : (k : Int) < (a.length : Int) := by omega
            go_wp2
            go_quiet (fail)
            go_wp2
            go_ret
            refine ⟨ret_bool ?_, _, by first | rfl | exact World.drewN_drewN ..⟩
            have : a ≠ b := by rintro rfl; exact hxy (hts.out.1 rfl).2
            simpa using this
        · go_wp2
          go_ret
          refine ⟨ret_bool ?_, _, rfl⟩
          have : k = a.length := by omega
          subst this
          have h := Ht.out
          rw [List.take_of_length_le (Nat.le_refl _), List.take_of_length_le (by have := Hl.out; omega)] at h
          simpa using h
  · obtain ⟨pa, ca, rfl, _⟩ := ha.shape
    obtain ⟨pb, cb, rfl, _⟩ := hb.shape
    have hne : (((a.length : Int)) != (b.length : Int)) = true := by simp; omega
    go_enter Try.func20, Try.ntmps20
    go_wp2
    go_ret
    exact ⟨ret_bool (by simp; rintro rfl; exact hl rfl), 0, rfl⟩
theorem Ints_eq (w : World) (va vb : Value) (a b : List Int) (ha : Sl w 1 encI va a) (hb : Sl w 1 encI vb b) (h : a = b) :
    Calls Try.prog 20 #[va, vb] w fun e w' => e = .returned (.bool true) ∧ ∃ n, w' = w.drewN n :=
  (Ints_any w va vb a b ha hb).mono fun e w' ⟨he, hw⟩ => ⟨by rw [he]; simp [h], hw⟩
end Go.Proofs.Ytomgjapjeckokaa
namespace Go.Proofs.Ytomgjapjeckokaa
open Go.RowKit Go.Shelf Go.Lib

theorem keyV_encs {l : List (List UInt8)} (h : ∀ x ∈ l, x.length = 128) : ∀ x ∈ l, (keyV x).length = 128 ∧ ∀ u ∈ keyV x, u.oneCell' = true := fun x hx => ⟨by rw [keyV_len, h x hx], fun _ hu => one_keyV hu⟩
theorem AnsU.own {w : World} {b : Nat} {r : Option (List Ent)} {v : Value} {er : Int} (h : AnsU w b r v er) : w.ownsRow b 48 35 v (r.getD []).length ((r.getD []).flatMap encE) ∧ er = if r.isSome then 0 else 11 := by
  cases r with
  | none => obtain ⟨rfl, rfl⟩ := h; exact ⟨World.ownsRow_nil _ _ _ _, rfl⟩
  | some l => exact ⟨h.1, h.2⟩
theorem unpS_keys {bs : List (List UInt8)} (hb : ∀ b ∈ bs, b.length = 128) : ((unpS bs).getD []).length ≤ 3 * bs.length ∧ ∀ e ∈ (unpS bs).getD [], e.key.length = 32 := by
  cases h : unpS bs with
  | none => exact ⟨by simp, fun e he => by simp at he⟩
  | some l =>
    unfold unpS at h
    obtain ⟨a, h1, h2⟩ := Option.bind_eq_some_iff.1 h
    split at h2
    · cases h2
      obtain ⟨h3, h4⟩ := unpTo_ok hb (Nat.le_refl _) h1
      exact ⟨h3, fun e he => (h4 e he).1⟩
    · cases h2
theorem packS_ok {l : List Ent} (places : List Int) (hk : ∀ e ∈ l, e.key.length = 32) : (packS l places).1.length ≤ l.length + 2 ∧ ∀ x ∈ (packS l places).1, x.length = 128 := by
  have none : ∀ n : Int, (([] : List (List UInt8)), n).1.length ≤ l.length + 2 ∧ ∀ x ∈ (([] : List (List UInt8)), n).1, x.length = 128 := fun n => ⟨by simp, fun x hx => by simp at hx⟩
  unfold packS
  split
  · split
    · exact none 1
    · split
      · exact none 0
      · split
        · rename_i hr
          dsimp only
          refine ⟨by rw [List.length_append, leafs_len2, List.length_singleton]; unfold nLeaf; omega, fun x hx => ?_⟩
          rcases List.mem_append.1 hx with hx | hx
          · unfold leafsS at hx
            obtain ⟨j, -, rfl⟩ := List.mem_map.1 hx
            refine sealB_len ?_
            unfold encB
            rw [List.length_cons, List.length_cons, entsB_len (fun e he => hk e (chunk_mem he))]
            have : (chunkAt l j).length ≤ 3 := by unfold chunkAt; simp; omega
            omega
          · obtain rfl := List.mem_singleton.1 hx
            refine sealB_len ?_
            unfold rootOk at hr
            simp only [Bool.and_eq_true, decide_eq_true_eq] at hr
            unfold rootB
            rw [List.length_cons, List.length_cons, List.length_map]; omega
        · exact none 11
  · exact none 11

set_option maxRecDepth 100000 in
set_option maxHeartbeats 20000000 in
theorem IndexTells_any (l : List Ent) (places : List Int) (bs : List (List UInt8)) (v pv bv : Value) (w : World) (hs : Sl w 35 encE v l) (hp : Sl w 1 encI pv places) (hb : Sl w 128 keyV bv bs) (hk : ∀ e ∈ l, intOkE e)
    (hpi : ∀ n ∈ places, -9223372036854775808 ≤ n ∧ n ≤ 9223372036854775807) (hb8 : ∀ b ∈ bs, b.length = 128) :
    Calls Try.prog 3 #[v, pv, bv] w fun e w' => e = .returned (.bool true) ∧ Below w.heap.size w w' := by
  obtain ⟨iE, zE, hE0, hE1, hE2, hE3, hE4⟩ := infoE_parts
  obtain ⟨iB, zB, hB0, hB1, hB2, hB3, hB4⟩ := infoB_parts
  obtain ⟨iI, hI0, hI1, hI2, hI3⟩ := infoI_parts
  have hkk : ∀ e ∈ l, e.key.length = 32 := fun e he => (hk e he).1
  obtain ⟨n₀, hn₀⟩ : ∃ n, w.heap.size = n := ⟨_, rfl⟩
  obtain ⟨vp, vc, rfl, hlc⟩ := hs.shape
  obtain ⟨qp, qc, rfl, -⟩ := hp.shape
  obtain ⟨bp, bc, rfl, -⟩ := hb.shape
  have hsB : ∀ W, Below n₀ w W → Sl W 35 encE (.slice vp l.length vc) l := fun W hB => (Kept.of_below (hn₀ ▸ hB : Below w.heap.size w W) 0).sl hs
  have hpB : ∀ W, Below n₀ w W → Sl W 1 encI (.slice qp places.length qc) places := fun W hB => (Kept.of_below (hn₀ ▸ hB : Below w.heap.size w W) 0).sl hp
  have hbB : ∀ W, Below n₀ w W → Sl W 128 keyV (.slice bp bs.length bc) bs := fun W hB => (Kept.of_below (hn₀ ▸ hB : Below w.heap.size w W) 0).sl hb
  have B0 : Below n₀ w w := Below.refl _ _
  obtain ⟨L, hL⟩ : ∃ x, l.length = x := ⟨_, rfl⟩
  obtain ⟨PL, hPL⟩ : ∃ x, places.length = x := ⟨_, rfl⟩
  obtain ⟨BL, hBL⟩ : ∃ x, bs.length = x := ⟨_, rfl⟩
  rw [hL] at hsB ⊢
  rw [hPL] at hpB ⊢
  rw [hBL] at hbB ⊢
  have hz0 : n₀ ≤ w.heap.size := Nat.le_of_eq hn₀.symm
  clear hs hp hb hlc
  replace hsB := hid hsB
  replace hpB := hid hpB
  replace hbB := hid hbB
  replace hb8 := hid hb8
  by_cases h1 : 200 < L
  · have h1I : (200 : Int) < (L : Int) := by omega
    replace hn₀ := hid hn₀
    go_enter Try.func3, Try.ntmps3
    go_wp2_with (fail)
    refine (wakes_any _).mono ?_
    rintro r w4 ⟨rfl, b4⟩
    have B4 := B0.trans (b4.mono (by omega))
    clear b4
    go_wp2_with (fail)
    go_ret
    exact ⟨rfl, hn₀.out ▸ B4⟩
  have h1I : ¬ (200 : Int) < (L : Int) := by omega
  by_cases h2 : 200 < PL
  · have h2I : (200 : Int) < (PL : Int) := by omega
    replace hn₀ := hid hn₀
    go_enter Try.func3, Try.ntmps3
    go_wp2_with (fail)
    refine (wakes_any _).mono ?_
    rintro r w4 ⟨rfl, b4⟩
    have B4 := B0.trans (b4.mono (by omega))
    clear b4
    go_wp2_with (fail)
    go_ret
    exact ⟨rfl, hn₀.out ▸ B4⟩
  have h2I : ¬ (200 : Int) < (PL : Int) := by omega
  by_cases h3 : 100 < BL
  · have h3I : (100 : Int) < (BL : Int) := by omega
    replace hn₀ := hid hn₀
    go_enter Try.func3, Try.ntmps3
    go_wp2_with (fail)
    refine (wakes_any _).mono ?_
    rintro r w4 ⟨rfl, b4⟩
    have B4 := B0.trans (b4.mono (by omega))
    clear b4
    go_wp2_with (fail)
    go_ret
    exact ⟨rfl, hn₀.out ▸ B4⟩
  have h3I : ¬ (100 : Int) < (BL : Int) := by omega
  have oA := World.ownsRow_made (base := n₀) (e := 48) (size := 35) w #[] 0 hz0 (Nat.zero_le _) rfl
  have BA := B0.alloc hz0 (.cells #[] 48)
  have sA := hsB.out _ BA
  have hn0 := hn₀
  replace hn₀ := hid hn₀
  replace hn0 := hid hn0
  replace hL := hid hL
  replace hPL := hid hPL
  replace hBL := hid hBL
  have hLl : l.length ≤ 200 := by rw [hL.out]; omega
  have hPl : places.length ≤ 200 := by rw [hPL.out]; omega
  have hBl : bs.length ≤ 100 := by rw [hBL.out]; omega
  go_enter Try.func3, Try.ntmps3
  go_upto_region 4 with (at_builtin; first | (refine wpList_append_sl rfl _ _ 22 rfl n₀ 48 iE zE 35 56 Try.underlying22 hE0 hE1 hE2 hE3 hE4 (by decide) _ _ _ rfl oA encE _ l rfl sA (encE_enc hkk) (by unfold maxLen; omega) (by omega) (by simp; omega) ?_; intro v5 w5 o5 hg5 n5; have B5 := BA.grown hg5 (by simp; omega) (fun j e => by simp [Value.ownBlock, Act.eval] at e; omega); have oB := World.ownsRow_made (base := n₀) (e := 3) (size := 1) w5 #[] 0 (by have := B5.size; omega) (Nat.zero_le _) rfl; have BB := B5.alloc (by have := B5.size; omega) (.cells #[] 3); have sB := hpB.out _ BB) | (refine wpList_append_sl rfl _ _ 23 rfl n₀ 3 iI _ 1 8 Try.underlying23 hI0 hI1 hI2 hI3 rfl (by decide) _ _ _ rfl oB encI _ places rfl sB (encI_enc _) (by unfold maxLen; omega) (by omega) (by have := B5.size; simp; omega) ?_; intro v6 w6 o6 hg6 n6))
  have o5' : w5.ownsRow n₀ 48 35 v5 l.length (l.flatMap encE) := by simpa using o5
  have o6' : w6.ownsRow n₀ 3 1 v6 places.length (places.flatMap encI) := by simpa using o6
  have b56 : Below w5.heap.size w5 w6 := ((Below.refl _ w5).alloc (Nat.le_refl _) (.cells #[] 3)).grown hg6 (by simp) (fun j e => by simp [Value.ownBlock, Act.eval] at e; omega)
  have B6 := B5.trans (b56.mono (Nat.le_trans hz0 B5.size))
  have s5 := sl_of_owns (enc := encE) (l := l) (fun x hx => by rw [encE_len, hkk x hx]) ((Kept.of_below b56 0).owns o5')
  have s6 := sl_of_owns (enc := encI) (l := places) (fun x _ => rfl) o6'
  obtain ⟨p5, c5, rfl, -, -⟩ := owns_shape o5'
  obtain ⟨p6, c6, rfl, -, -⟩ := owns_shape o6'
  rw [hL.out] at s5 o5' ⊢
  rw [hPL.out] at s6 o6' ⊢
  have cP := hid (Pack_any l places _ _ w6 s5 s6 hk (by omega) (by omega))
  obtain ⟨PA, hPA⟩ : ∃ x, packS l places = x := ⟨_, rfl⟩
  obtain ⟨hPA1, hPA2⟩ := packS_ok places hkk
  rw [hPA] at cP hPA1 hPA2
  obtain ⟨PA, pe⟩ := PA
  dsimp only at hPA1 hPA2
  replace hPA2 := hid hPA2
  replace hPA := hid hPA
  replace s5 := hid s5
  replace s6 := hid s6
  clear o5 hg5 n5 o6 hg6 n6 oA oB BA BB sA sB o5' o6' b56 B5
  go_wp2_with (fail)
  refine cP.out.mono ?_
  rintro r w7 ⟨va, era, rfl, b7, oa, rfl⟩
  dsimp only at oa
  have B7 := B6.trans (b7.mono (Nat.le_trans hz0 B6.size))
  have cQ := hid (by have h := rPack_any l places _ _ w7 (hsB.out _ B7) (hpB.out _ B7) hkk (by omega) (by omega); rw [hPA.out] at h; exact h)
  have sa7 := sl_of_owns (enc := keyV) (l := PA) (fun x hx => by rw [keyV_len, hPA2.out x hx]) oa
  obtain ⟨pa, ca, rfl, -, -⟩ := owns_shape oa
  have s57 := (Kept.of_below b7 0).sl s5.out
  have s67 := (Kept.of_below b7 0).sl s6.out
  replace sa7 := hid sa7
  replace s57 := hid s57
  replace s67 := hid s67
  obtain ⟨AL, hAL⟩ : ∃ x, PA.length = x := ⟨_, rfl⟩
  rw [hAL] at sa7 hPA1 ⊢
  replace hAL := hid hAL
  clear cP b7 oa s5 s6 B6
  go_wp2_with (fail)
  refine cQ.out.mono ?_
  rintro r w8 ⟨vb, erb, rfl, b8, ob, rfl⟩
  dsimp only at ob
  have B8 := B7.trans (b8.mono (Nat.le_trans hz0 B7.size))
  have sb8 := sl_of_owns (enc := keyV) (l := PA) (fun x hx => by rw [keyV_len, hPA2.out x hx]) ob
  obtain ⟨pb, cb, rfl, -, -⟩ := owns_shape ob
  have sa8 := (Kept.of_below b8 0).sl sa7.out
  have s58 := (Kept.of_below b8 0).sl s57.out
  have s68 := (Kept.of_below b8 0).sl s67.out
  rw [hAL.out] at sb8 ⊢
  have oC := World.ownsRow_made (base := n₀) (e := 43) (size := 128) w8 #[] 0 (by have := B8.size; omega) (Nat.zero_le _) rfl
  have BC := B8.alloc (by have := B8.size; omega) (.cells #[] 43)
  have sC := hbB.out _ BC
  replace sa8 := hid sa8
  replace sb8 := hid sb8
  replace s58 := hid s58
  replace s68 := hid s68
  clear cQ b8 ob sa7 s57 s67 B7
  go_wp2_with (at_builtin; go_must (refine wpList_append_sl rfl _ _ 24 rfl n₀ 43 iB zB 128 128 Try.underlying24 hB0 hB1 hB2 hB3 hB4 (by decide) _ _ _ rfl oC keyV _ bs rfl sC (keyV_encs hb8.out) (by unfold maxLen; omega) (by omega) (by have := B8.size; simp; omega) ?_; intro v9 w9 o9 hg9 n9))
  have o9' : w9.ownsRow n₀ 43 128 v9 bs.length (bs.flatMap keyV) := by simpa using o9
  have b89 : Below w8.heap.size w8 w9 := ((Below.refl _ w8).alloc (Nat.le_refl _) (.cells #[] 43)).grown hg9 (by simp) (fun j e => by simp [Value.ownBlock, Act.eval] at e; omega)
  have B9 := B8.trans (b89.mono (Nat.le_trans hz0 B8.size))
  have s9 := sl_of_owns (enc := keyV) (l := bs) (fun x hx => by rw [keyV_len, hb8.out x hx]) o9'
  have cU := hid (Unpack_any bs _ w9 s9 hb8.out (by omega))
  have sa9 := (Kept.of_below b89 0).sl sa8.out
  have sb9 := (Kept.of_below b89 0).sl sb8.out
  have s59 := (Kept.of_below b89 0).sl s58.out
  have s69 := (Kept.of_below b89 0).sl s68.out
  obtain ⟨RU, hRU⟩ : ∃ x, unpS bs = x := ⟨_, rfl⟩
  obtain ⟨hRU1, hRU2⟩ := unpS_keys hb8.out
  rw [hRU] at cU hRU1 hRU2
  replace hRU := hid hRU
  replace hRU2 := hid hRU2
  replace sa9 := hid sa9
  replace sb9 := hid sb9
  replace s59 := hid s59
  replace s69 := hid s69
  clear o9 hg9 n9 o9' b89 s9 sa8 sb8 s58 s68 oC BC sC B8
  refine cU.out.mono ?_
  rintro r w10 ⟨vm, erm, rfl, b10, am⟩
  obtain ⟨om, rfl⟩ := am.own
  have B10 := B9.trans (b10.mono (Nat.le_trans hz0 B9.size))
  have cV := hid (by have h := rUnpack_any bs _ w10 (hbB.out _ B10) hb8.out (by omega); rw [hRU.out] at h; exact h)
  have hUk : ∀ x ∈ RU.getD [], (encE x).length = 35 := fun x hx => by rw [encE_len, hRU2.out x hx]
  have sm10 := sl_of_owns (enc := encE) (l := RU.getD []) hUk om
  obtain ⟨pm, cm, rfl, -, -⟩ := owns_shape om
  have sa10 := (Kept.of_below b10 0).sl sa9.out
  have sb10 := (Kept.of_below b10 0).sl sb9.out
  have s510 := (Kept.of_below b10 0).sl s59.out
  have s610 := (Kept.of_below b10 0).sl s69.out
  obtain ⟨UL, hUL⟩ : ∃ x, (RU.getD []).length = x := ⟨_, rfl⟩
  obtain ⟨ue, hue⟩ : ∃ x : Int, (if RU.isSome then (0 : Int) else 11) = x := ⟨_, rfl⟩
  rw [hUL] at sm10 hRU1 ⊢
  rw [hue]
  replace hUL := hid hUL
  replace hue := hid hue
  replace hUk := hid hUk
  replace sm10 := hid sm10
  replace sa10 := hid sa10
  replace sb10 := hid sb10
  replace s510 := hid s510
  replace s610 := hid s610
  clear cU b10 om am sa9 sb9 s59 s69 B9
  go_wp2_with (fail)
  refine cV.out.mono ?_
  rintro r w11 ⟨vn, ern, rfl, b11, an⟩
  obtain ⟨on, rfl⟩ := an.own
  have B11 := B10.trans (b11.mono (Nat.le_trans hz0 B10.size))
  have sn := sl_of_owns (enc := encE) (l := RU.getD []) hUk.out on
  obtain ⟨pn, cn, rfl, -, -⟩ := owns_shape on
  have sa := (Kept.of_below b11 0).sl sa10.out
  have sb := (Kept.of_below b11 0).sl sb10.out
  have sm := (Kept.of_below b11 0).sl sm10.out
  have s5 := (Kept.of_below b11 0).sl s510.out
  have s6 := (Kept.of_below b11 0).sl s610.out
  rw [hUL.out] at sn ⊢
  rw [hue.out]
  obtain ⟨gb, hgb⟩ : ∃ x, rGoodL l = x := ⟨_, rfl⟩
  have hb := Below.refl w11.heap.size w11
  have c1 := hid (fun W (h : Below w11.heap.size w11 W) => by have h9 := iGood_all l _ W ((Kept.of_below h 0).sl s5) hk (by omega); rw [goodI_eq, hgb] at h9; exact h9)
  have c2 := hid (fun W (h : Below w11.heap.size w11 W) => by have h9 := rGood_any l _ W (hsB.out _ (B11.trans (h.mono (Nat.le_trans hz0 B11.size)))) hkk; rw [hgb] at h9; exact h9)
  have c3 := hid (fun W (h : Below w11.heap.size w11 W) => by have h9 := Blocks_any PA PA _ _ W ((Kept.of_below h 0).sl sa) ((Kept.of_below h 0).sl sb) hPA2.out hPA2.out (by rw [hAL.out]; omega) (by rw [hAL.out]; unfold maxLen; omega); rw [decide_eq_true (rfl : PA = PA)] at h9; exact h9)
  have c4 := hid (fun W (h : Below w11.heap.size w11 W) => by have h9 := Entries_any (RU.getD []) (RU.getD []) _ _ W ((Kept.of_below h 0).sl sm) ((Kept.of_below h 0).sl sn) hRU2.out hRU2.out (by rw [hUL.out]; omega) (by rw [hUL.out]; unfold maxLen; omega); rw [decide_eq_true (rfl : RU.getD [] = RU.getD [])] at h9; exact h9)
  have c5 := hid (fun W (h : Below w11.heap.size w11 W) => by have h9 := Entries_any l l _ _ W ((Kept.of_below h 0).sl s5) (hsB.out _ (B11.trans (h.mono (Nat.le_trans hz0 B11.size)))) hkk hkk (by omega) (by unfold maxLen; omega); rw [decide_eq_true (rfl : l = l)] at h9; exact h9)
  have c6 := hid (fun W (h : Below w11.heap.size w11 W) => show Calls Try.prog 20 #[.slice p6 PL c6, .slice qp PL qc] W fun e w' => e = .returned (.bool true) ∧ Below W.heap.size W w' by
    have h9 := Ints_any W _ _ places places ((Kept.of_below h 0).sl s6) (hpB.out _ (B11.trans (h.mono (Nat.le_trans hz0 B11.size))))
    rw [decide_eq_true (rfl : places = places)] at h9
    refine h9.mono ?_
    rintro e w' ⟨he, n, rfl⟩
    exact ⟨he, (Below.refl _ _).drewN n⟩)
  have c7 := hid (fun W (h : Below w11.heap.size w11 W) => wakes_any W)
  have hp11 := hid (hpB.out _ B11)
  replace hgb := hid hgb
  replace hk := hid hk
  replace hpi := hid hpi
  replace hkk := hid hkk
  clear cV b11 on an sa10 sb10 s510 s610 sm10 B10 sn sa sb sm s5 s6
  by_cases h0 : PL = 0
  · have h0I : ¬ (0 : Int) < (PL : Int) := by omega
    have h40 : ¬ (1099511627776 : Int) < (L : Int) := by omega
    have cz := hid (fun W => Size_any (L : Int) W (by omega))
    have cr := hid (fun W => rSize_any (L : Int) W (by omega) (by omega))
    obtain ⟨sz, hsz⟩ : ∃ x, sizeS (L : Int) = x := ⟨_, rfl⟩
    rw [hsz] at cz cr
    clear h0 hsz
    go_wp2_with (fail)
    refine (c1.out _ hb).mono ?_
    rintro r wn ⟨rfl, bn⟩
    replace hb := hb.trans (bn.mono hb.size)
    clear bn c1
    go_wp2_with (fail)
    refine (c2.out _ hb).mono ?_
    rintro r wn ⟨rfl, bn⟩
    replace hb := hb.trans (bn.mono hb.size)
    clear bn c2
    go_wp2_with (fail)
    refine (c3.out _ hb).mono ?_
    rintro r wn ⟨rfl, bn⟩
    replace hb := hb.trans (bn.mono hb.size)
    clear bn c3
    go_wp2_with (fail)
    refine (c4.out _ hb).mono ?_
    rintro r wn ⟨rfl, bn⟩
    replace hb := hb.trans (bn.mono hb.size)
    clear bn c4
    go_wp2_with (fail)
    refine (cz.out _).mono ?_
    rintro r wn ⟨rfl, rfl⟩
    clear cz
    go_wp2_with (fail)
    refine (cr.out _).mono ?_
    rintro r wn ⟨rfl, rfl⟩
    clear cr
    go_wp2_with (fail)
    refine (c5.out _ hb).mono ?_
    rintro r wn ⟨rfl, bn⟩
    replace hb := hb.trans (bn.mono hb.size)
    clear bn c5
    go_wp2_with (fail)
    refine (c6.out _ hb).mono ?_
    rintro r wn ⟨rfl, bn⟩
    replace hb := hb.trans (bn.mono hb.size)
    clear bn c6
    go_wp2_with (fail)
    refine (c7.out _ hb).mono ?_
    rintro r wn ⟨rfl, bn⟩
    replace hb := hb.trans (bn.mono hb.size)
    clear bn c7
    go_wp2_with (fail)
    go_ret
    exact ⟨rfl, hn₀.out ▸ B11.trans (hb.mono (by have := B11.size; omega))⟩
  · have h0I : (0 : Int) < (PL : Int) := by omega
    obtain ⟨x, hx⟩ : ∃ x, places[0]? = some x := ⟨_, List.getElem?_eq_getElem (by rw [hPL.out]; omega)⟩
    obtain ⟨hx1, hx2⟩ := hpi.out x (List.mem_of_getElem? hx)
    obtain ⟨b', o', c', he', -, -, hc⟩ := hp11.out.open (by rintro rfl; simp at hx)
    obtain ⟨rfl, -, rfl⟩ := Value.slice.inj he'
    have cx := rangeAt_one (hc 0 x hx)
    rw [Nat.zero_mul, Nat.add_zero] at cx
    clear he' hc hx h0
    by_cases hx4 : (1099511627776 : Int) < x
    · clear hx1 hx2
      go_wp2_with (fail)
      refine (c1.out _ hb).mono ?_
      rintro r wn ⟨rfl, bn⟩
      replace hb := hb.trans (bn.mono hb.size)
      clear bn c1
      go_wp2_with (fail)
      refine (c2.out _ hb).mono ?_
      rintro r wn ⟨rfl, bn⟩
      replace hb := hb.trans (bn.mono hb.size)
      clear bn c2
      go_wp2_with (fail)
      refine (c3.out _ hb).mono ?_
      rintro r wn ⟨rfl, bn⟩
      replace hb := hb.trans (bn.mono hb.size)
      clear bn c3
      go_wp2_with (fail)
      refine (c4.out _ hb).mono ?_
      rintro r wn ⟨rfl, bn⟩
      replace hb := hb.trans (bn.mono hb.size)
      clear bn c4
      go_wp2_with (fail)
      refine (c5.out _ hb).mono ?_
      rintro r wn ⟨rfl, bn⟩
      replace hb := hb.trans (bn.mono hb.size)
      clear bn c5
      go_wp2_with (fail)
      refine (c6.out _ hb).mono ?_
      rintro r wn ⟨rfl, bn⟩
      replace hb := hb.trans (bn.mono hb.size)
      clear bn c6
      go_wp2_with (fail)
      refine (c7.out _ hb).mono ?_
      rintro r wn ⟨rfl, bn⟩
      replace hb := hb.trans (bn.mono hb.size)
      clear bn c7
      go_wp2_with (fail)
      go_ret
      exact ⟨rfl, hn₀.out ▸ B11.trans (hb.mono (by have := B11.size; omega))⟩
    · have cz := hid (fun W => Size_any x W hx2)
      have cr := hid (fun W => rSize_any x W hx1 hx2)
      obtain ⟨sz, hsz⟩ : ∃ y, sizeS x = y := ⟨_, rfl⟩
      rw [hsz] at cz cr
      clear hx1 hx2 hsz
      go_wp2_with (fail)
      refine (c1.out _ hb).mono ?_
      rintro r wn ⟨rfl, bn⟩
      replace hb := hb.trans (bn.mono hb.size)
      clear bn c1
      go_wp2_with (fail)
      refine (c2.out _ hb).mono ?_
      rintro r wn ⟨rfl, bn⟩
      replace hb := hb.trans (bn.mono hb.size)
      clear bn c2
      go_wp2_with (fail)
      refine (c3.out _ hb).mono ?_
      rintro r wn ⟨rfl, bn⟩
      replace hb := hb.trans (bn.mono hb.size)
      clear bn c3
      go_wp2_with (fail)
      refine (c4.out _ hb).mono ?_
      rintro r wn ⟨rfl, bn⟩
      replace hb := hb.trans (bn.mono hb.size)
      clear bn c4
      go_wp2_with (fail)
      refine (cz.out _).mono ?_
      rintro r wn ⟨rfl, rfl⟩
      clear cz
      go_wp2_with (fail)
      refine (cr.out _).mono ?_
      rintro r wn ⟨rfl, rfl⟩
      clear cr
      go_wp2_with (fail)
      refine (c5.out _ hb).mono ?_
      rintro r wn ⟨rfl, bn⟩
      replace hb := hb.trans (bn.mono hb.size)
      clear bn c5
      go_wp2_with (fail)
      refine (c6.out _ hb).mono ?_
      rintro r wn ⟨rfl, bn⟩
      replace hb := hb.trans (bn.mono hb.size)
      clear bn c6
      go_wp2_with (fail)
      refine (c7.out _ hb).mono ?_
      rintro r wn ⟨rfl, bn⟩
      replace hb := hb.trans (bn.mono hb.size)
      clear bn c7
      go_wp2_with (fail)
      go_ret
      exact ⟨rfl, hn₀.out ▸ B11.trans (hb.mono (by have := B11.size; omega))⟩
end Go.Proofs.Ytomgjapjeckokaa
namespace Go.Proofs.Ytomgjapjeckokaa
open Go.ChangeShapes Go.WideShapes Go.ChangeAt Go.RowKit

section
variable {H : Type} {enc : TypeId × Value → H} {P : Program}
/-- a slice of rows that came in, each read by its own law -/
theorem open_rows {α : Type} [Inhabited α] {ec : α → List Value} {Pr : α → Prop} {t e : TypeId} {n : Nat} {W : World} {base : Nat} {v : Value} {d : DataW H} {p : List MemPlace} (ht : P.underlying t = some (.slice e)) (hce : P.cellsOf e = n) (hn : 0 < n)
    (hone : ∀ (fuel : Nat) (cs : List Value) (x : DataW H × List MemPlace), cs.length = n → DataW.trod enc P W 0 (fun _ => true) true fuel e cs = some x → ∃ y : α, cs = ec y ∧ Pr y)
    (hok : Value.okWide P W .any base t v) (h : DataW.Trod enc P W 0 (fun _ => true) true t v d p) : ∃ l : List α, (∀ y ∈ l, Pr y) ∧ Sl W n ec v l := by
  obtain ⟨a0, len, cap, rfl⟩ := okWide_slice ht hok
  obtain ⟨fuel, hf⟩ := h
  rcases Go.Deep.open_slice ht hf with ⟨hcs, hx⟩ | ⟨a, len', cap', m, nf, D, Pl, hcs, -, hl, hm, hmm, hx, hcell⟩
  · simp [Value.cells] at hcs
    obtain ⟨rfl, rfl, rfl⟩ := hcs
    exact ⟨[], by simp, .inl ⟨rfl, rfl⟩⟩
  · simp [Value.cells] at hcs
    obtain ⟨rfl, rfl, rfl⟩ := hcs
    simp only [if_true] at hmm
    subst hmm
    rw [hce] at hcell
    have one : ∀ i, i < len → ∃ y : α, Pr y ∧ (i = 0 → a.spot = none) ∧ (a.spot = none → W.rangeAt a.block (a.off + i * n) (ec y)) := by
      intro i hi
      obtain ⟨cs', h1, h2⟩ := hcell i (by omega)
      obtain ⟨-, hlen, hc⟩ := World.cells?_some h1
      obtain ⟨y, hy, hp⟩ := hone _ cs' _ hlen h2
      refine ⟨y, hp, ?_, fun hsp j w hw => ?_⟩
      · intro hi0
        subst hi0
        have h4 := hc 0 hn
        rw [Nat.zero_mul, List.getElem?_eq_getElem (by omega)] at h4
        exact add_zero_spot h4
      · have hj : j < n := by
          have h9 := (List.getElem?_eq_some_iff.1 hw).1
          rw [← hy, hlen] at h9
          exact h9
        have h4 := hc j hj
        rw [hy, hw, add_two a hsp] at h4
        exact h4
    obtain ⟨g, hg⟩ := Go.Deep.choose_lt (α := α) one
    refine ⟨(List.range len).map g, fun x hx => ?_, ?_⟩
    · obtain ⟨i, hi, rfl⟩ := List.mem_map.1 hx
      exact (hg i (by simpa using hi)).1
    · have hs0 : (List.range len).map g ≠ [] → a.spot = none := fun hne => by
        have h0 : 0 < len := by
          cases len with
          | zero => simp at hne
          | succ k => omega
        exact (hg 0 h0).2.1 rfl
      refine .inr ⟨a, _, by simp, by simpa using hl, hm, hs0, fun i x hi => ?_⟩
      have hlt : i < len := by
        have := (List.getElem?_eq_some_iff.1 hi).1
        simpa using this
      have : x = g i := by
        simp [hlt] at hi
        exact hi.symm
      rw [this]
      exact (hg i hlt).2.2 (hs0 (by cases len with | zero => exact absurd hlt (Nat.not_lt_zero _) | succ k => simp))

/-- the cells of an array of bytes that came in -/
theorem bytes_of {W : World} {e u n : Nat} {fuel : Nat} {cs : List Value} {x : DataW H × List MemPlace} (he : P.underlying e = some (.array n u)) (hu : P.underlying u = some (.int .u8)) (hcu : P.cellsOf u = 1) (hcl : cs.length = n)
    (h : DataW.trod enc P W 0 (fun _ => true) true fuel e cs = some x) : ∃ l : List UInt8, cs = keyV l ∧ l.length = n := by
  obtain ⟨xs, mm, -, -, hl2, hl3, hall⟩ := DataW.trod_array he h
  rw [hcu] at hall
  have each : ∀ j, j < n → ∃ y : UInt8, cs[j]? = some (.int .u8 (y.toNat : Int)) := by
    intro j hj
    have h3 := hall j hj
    rw [List.getElem?_eq_getElem (by rw [hl3]; exact hj)] at h3
    obtain ⟨y, hy1, -, hy2⟩ := DataW.trod_int hu h3
    have hy3 : 0 ≤ y ∧ y ≤ 255 := by simpa [Lit.wf, show IntKind.u8.min = 0 from rfl, show IntKind.u8.max = 255 from rfl] using hy2
    refine ⟨UInt8.ofNat y.toNat, ?_⟩
    have h4 : ((cs.drop (j * 1)).take 1)[0]? = some (.int .u8 y) := by rw [hy1]; rfl
    have h5 : cs[j]? = some (.int .u8 y) := by simpa using h4
    rw [h5, UInt8.toNat_ofNat']
    congr 2
    omega
  obtain ⟨f, hf2⟩ := Go.Deep.choose_lt (α := UInt8) each
  refine ⟨(List.range n).map f, List.ext_getElem? fun j => ?_, by simp⟩
  by_cases hj : j < n
  · rw [hf2 j hj]
    unfold keyV
    rw [List.map_map, List.getElem?_map, List.getElem?_range hj]; rfl
  · rw [List.getElem?_eq_none (by omega), List.getElem?_eq_none (by unfold keyV; simp; omega)]
end
instance : Inhabited Ent := ⟨⟨[], 0, 0, 0⟩⟩
theorem wfI {n : Int} (h : (Lit.int .i64 n).wf = true) : -9223372036854775808 ≤ n ∧ n ≤ 9223372036854775807 := by
  simpa [Lit.wf, show IntKind.i64.min = -9223372036854775808 from rfl, show IntKind.i64.max = 9223372036854775807 from rfl] using h
set_option maxRecDepth 100000 in
theorem ent_of {H : Type} {enc : TypeId × Value → H} {W : World} {fuel : Nat} {cs : List Value} {x : DataW H × List MemPlace} (hcs : cs.length = 35) (h : DataW.trod enc Try.prog W 0 (fun _ => true) true fuel 48 cs = some x) : ∃ e : Ent, cs = encE e ∧ intOkE e := by
  have hC1 : Try.prog.cellsOf 3 = 1 := by kernel_rfl
  have hC2 : Try.prog.cellsOf 46 = 32 := by kernel_rfl
  obtain ⟨xs, n, -, -, -, hlen, hff⟩ := DataW.trod_struct Try.underlying48 h
  match xs, hlen with
  | [y0, y1, y2, y3], _ =>
  have g0 : DataW.trod enc Try.prog W 0 (fun _ => true) true n 46 (List.take (Try.prog.cellsOf 46) (List.drop 0 cs)) = some y0 := hff 0 _ rfl
  have g1 : DataW.trod enc Try.prog W 0 (fun _ => true) true n 3 (List.take (Try.prog.cellsOf 3) (List.drop 32 cs)) = some y1 := hff 1 _ rfl
  have g2 : DataW.trod enc Try.prog W 0 (fun _ => true) true n 3 (List.take (Try.prog.cellsOf 3) (List.drop 33 cs)) = some y2 := hff 2 _ rfl
  have g3 : DataW.trod enc Try.prog W 0 (fun _ => true) true n 3 (List.take (Try.prog.cellsOf 3) (List.drop 34 cs)) = some y3 := hff 3 _ rfl
  rw [hC2] at g0
  rw [hC1] at g1 g2 g3
  obtain ⟨k, hk, hkl⟩ := bytes_of Try.underlying46 Try.underlying5 (by kernel_rfl) (by simp; omega) g0
  obtain ⟨n1, e1, -, w1⟩ := DataW.trod_int Try.underlying3 g1
  obtain ⟨n2, e2, -, w2⟩ := DataW.trod_int Try.underlying3 g2
  obtain ⟨n3, e3, -, w3⟩ := DataW.trod_int Try.underlying3 g3
  refine ⟨⟨k, n1, n2, n3⟩, ?_, hkl, (wfI w1).1, (wfI w1).2, (wfI w2).1, (wfI w2).2⟩
  have d3 : cs.drop 34 = [.int .i64 n3] := by
    rw [← e3, List.take_of_length_le (by simp; omega)]
  have d2 : cs.drop 33 = [.int .i64 n2, .int .i64 n3] := by
    have h9 := List.take_append_drop 1 (cs.drop 33)
    rw [e2, List.drop_drop, d3] at h9
    exact h9.symm
  have d1 : cs.drop 32 = [.int .i64 n1, .int .i64 n2, .int .i64 n3] := by
    have h9 := List.take_append_drop 1 (cs.drop 32)
    rw [e1, List.drop_drop, d2] at h9
    exact h9.symm
  have h9 := List.take_append_drop 32 cs
  rw [List.drop_zero] at hk
  rw [hk, d1] at h9
  exact h9.symm
set_option maxRecDepth 100000 in
theorem open_ents {H : Type} {enc : TypeId × Value → H} {W : World} {base : Nat} {v : Value} {d : DataW H} {p : List MemPlace} (hok : Value.okWide Try.prog W .any base 22 v) (h : DataW.Trod enc Try.prog W 0 (fun _ => true) true 22 v d p) :
    ∃ l : List Ent, (∀ e ∈ l, intOkE e) ∧ Sl W 35 encE v l :=
  open_rows Try.underlying22 (by kernel_rfl) (by decide) (fun _ _ _ hl hx => ent_of hl hx) hok h
set_option maxRecDepth 100000 in
theorem open_ent {H : Type} {enc : TypeId × Value → H} {W : World} {r : Reach} {b0 : Nat} {v : Value} {d : DataW H} {p : List MemPlace} (hv : Value.okWide Try.prog W r b0 48 v) (h : DataW.Trod enc Try.prog W 0 (fun _ => true) true 48 v d p) :
    ∃ e : Ent, v = .agg (rowE e) ∧ intOkE e := by
  have hC : Try.prog.cellsOf 48 = 35 := by kernel_rfl
  obtain ⟨cs, rfl, hsz⟩ := okWide_struct Try.underlying48 hv
  obtain ⟨fuel, hf⟩ := h
  obtain ⟨e, he, ho⟩ := ent_of (by rw [← hC, ← hsz]; simp [Value.cells]) hf
  refine ⟨e, ?_, ho⟩
  unfold rowE
  rw [← he]
  simp [Value.cells]
end Go.Proofs.Ytomgjapjeckokaa
namespace Go.Proofs.Ytomgjapjeckokaa
open Go.ChangeShapes Go.WideShapes Go.ChangeAt Go.RowKit

theorem u8_of {H : Type} {enc : TypeId × Value → H} {W : World} {fuel : Nat} {cs : List Value} {x : DataW H × List MemPlace} (h : DataW.trod enc Try.prog W 0 (fun _ => true) true fuel 5 cs = some x) : ∃ y : UInt8, cs = encU y ∧ True := by
  obtain ⟨y, e1, -, w1⟩ := DataW.trod_int Try.underlying5 h
  have hy3 : 0 ≤ y ∧ y ≤ 255 := by simpa [Lit.wf, show IntKind.u8.min = 0 from rfl, show IntKind.u8.max = 255 from rfl] using w1
  refine ⟨UInt8.ofNat y.toNat, ?_, trivial⟩
  rw [e1]
  unfold encU
  rw [UInt8.toNat_ofNat']
  congr 2
  omega
set_option maxRecDepth 100000 in
theorem open_u8s {H : Type} {enc : TypeId × Value → H} {W : World} {base : Nat} {v : Value} {d : DataW H} {p : List MemPlace} (hok : Value.okWide Try.prog W .any base 54 v) (h : DataW.Trod enc Try.prog W 0 (fun _ => true) true 54 v d p) :
    ∃ l : List UInt8, (∀ e ∈ l, True) ∧ Sl W 1 encU v l :=
  open_rows Try.underlying54 (by kernel_rfl) (by decide) (fun _ _ _ _ hx => u8_of hx) hok h
set_option maxRecDepth 100000 in
theorem open_blocks {H : Type} {enc : TypeId × Value → H} {W : World} {base : Nat} {v : Value} {d : DataW H} {p : List MemPlace} (hok : Value.okWide Try.prog W .any base 24 v) (h : DataW.Trod enc Try.prog W 0 (fun _ => true) true 24 v d p) :
    ∃ l : List (List UInt8), (∀ e ∈ l, e.length = 128) ∧ Sl W 128 keyV v l :=
  open_rows Try.underlying24 (by kernel_rfl) (by decide) (fun _ _ _ hl hx => bytes_of Try.underlying43 Try.underlying5 (by kernel_rfl) hl hx) hok h
end Go.Proofs.Ytomgjapjeckokaa
namespace Go.Proofs.Ytomgjapjeckokaa.indexTells
open Go.ChangeShapes Go.WideShapes Go.ChangeAt Go.RowKit

theorem own : ownKnob Try.prog.godebug = none := by kernel_rfl
theorem laidOut : laidOutB Try.prog = true := by kernel_rfl
theorem reads : ∀ t ∈ Try.f3.params.toList, Try.prog.readableRec t = true ∧ t < Try.prog.types.size := by
  rw [Try.params3]
  intro t ht
  simp at ht
  rcases ht with rfl | rfl | rfl
  all_goals exact ⟨by kernel_rfl, of_decide_eq_true (by kernel_rfl)⟩

set_option maxRecDepth 100000 in
theorem lifted (os : Os) (started : os.Started) (H : Type) (enc : TypeId × Value → H) :
    ReturnsInHanded {} Try.checked os 3 .any (Rows.indexTellsSpec.pre6 enc Try.prog Try.f3 Rows.indexTellsRow.domain false) (Rows.indexTellsSpec.post enc Try.prog Try.f3 false true false false) := by
  refine returnsInHanded_of_change (C := Try.checked) own started (by kernel_rfl) Try.func3
    (ChangeSpec.witness6 (enc := enc) (C := Try.checked) false ⟨#[], #[.slice none 0 0, .slice none 0 0, .slice none 0 0], []⟩ 8 (by kernel_rfl) (by kernel_rfl) (by kernel_rfl) (by kernel_rfl)) ?_
  intro W base args ds gs before hval0 hW hcnd _
  have hval : ∀ (j : Nat) t v, Try.f3.params[j]? = some t → args[j]? = some v → Value.okWide Try.prog W .any base t v := hval0
  have hW' := hW
  obtain ⟨p, q, hA0, hV, rfl, hfz, hnd⟩ := hW
  have hA : DataW.TrodAll enc Try.prog W 0 (fun _ => true) true Try.f3.params.toList args.toList ds p := hA0
  rw [Try.params3] at hA hval
  obtain ⟨v0, vs0, d0, ds0, p0, q0, hargs, rfl, rfl, h0, r0⟩ := trodAll_cons hA
  obtain ⟨v1, vs1, d1, ds1, p1, q1, rfl, rfl, rfl, h1, r1⟩ := trodAll_cons r0
  obtain ⟨v2, vs2, d2, ds2, p2, q2, rfl, rfl, rfl, h2, r2⟩ := trodAll_cons r1
  obtain ⟨rfl, rfl, rfl⟩ := trodAll_nil r2
  obtain rfl : args = #[v0, v1, v2] := by cases args; simp_all
  obtain ⟨rfl, rfl⟩ := trodVars_none hV
  obtain ⟨l0, b0, s0⟩ := open_ents (hval 0 22 v0 rfl rfl) h0
  obtain ⟨l1, b1, s1⟩ := open_ints Try.underlying23 Try.underlying3 (by kernel_rfl) (hval 1 23 v1 rfl rfl) h1
  obtain ⟨l2, b2, s2⟩ := open_blocks (hval 2 24 v2 rfl rfl) h2
  clear hA0 hval0
  refine (IndexTells_any l0 l1 l2 v0 v1 v2 W s0 s1 s2 b0 b1 b2).mono fun e W' ⟨he, hB⟩ => ?_
  subst he
  exact ⟨_, rfl, law_post rfl hW' rfl rfl Try.underlying4 laidOut reads hB⟩

theorem holds : Rows.IndexTellsSaid :=
  OpenClaim.holds_of_wide 3 Try.f3 rfl rfl rfl rfl rfl rfl rfl ⟨rfl, rfl, rfl, rfl, rfl⟩ rfl rfl rfl rfl rfl (by kernel_rfl) Try.func3 (by kernel_rfl)
    (of_decide_eq_true (by kernel_rfl)) (by unfold Func.isWrapper; first | (rw [if_pos (by decide +kernel)]; kernel_rfl) | (rw [if_neg (by decide +kernel)]; exact ⟨rfl, rfl⟩))
    (fun os started H enc _ => lifted os started H enc)
end Go.Proofs.Ytomgjapjeckokaa.indexTells
