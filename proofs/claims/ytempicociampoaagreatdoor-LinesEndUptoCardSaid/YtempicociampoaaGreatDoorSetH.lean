/- The walk of setting's iterator of pieces. -/
import Derived.Test.YtempicociampoaaGreatDoorJ0
import Derived.Test.YtempicociampoaaGreatDoorSetG
import Derived.Test.YtempicociampoaaGreatDoorRangeX
namespace Go.Proofs.YtempicociampoaaGreatDoor
open Go.RowKit Go.Shelf
attribute [local go_sem] Oper.semAt_some

theorem cell_lt {w : World} {p : Addr} {v : Value} (h : w.cell? p = some v) : p.block < w.heap.size := by
 unfold World.cell? at h
 cases ho : w.heap[p.block]? with
 | none => rw [ho] at h; simp at h
 | some o => exact (Array.getElem?_eq_some_iff.1 ho).1

def lineC (v : Value) (f t : Nat) (d : Int) (s : Sm) : Array Value := #[v, .int .i64 f, .int .i64 t, .int .i64 d, .int .i64 s.w, .int .i64 s.y, .int .i64 s.z]
def PiR (b : Nat) (v : Value) (f t : Nat) (d : Int) (s : Sm) (l : List It) (W : World) : Prop :=
 W.heap[b]? = some (.cells (lineC v f t d s) 132 (0, 0)) ∧ Sl W 6 encIt v l
theorem PiR.st {b : Nat} {v : Value} {f t : Nat} {d : Int} {s : Sm} {l : List It} (B : Nat) : St B (PiR b v f t d s l) :=
 fun _ _ hk ⟨h1, h2⟩ => ⟨hk.same _ _ h1 (.inl rfl), hk.sl h2⟩
def piEnc (x : Int × ByteArray) : Array Value := #[.agg #[.int .i64 x.1, .string x.2]]

theorem mid_split {l : List It} {f k t : Nat} (h1 : f ≤ k) (h2 : k ≤ t) (h3 : t ≤ l.length) : ∃ r, mid l f t = mid l f k ++ r := by
 refine ⟨(l.take t).drop k, ?_⟩
 have h : l.take t = l.take k ++ (l.take t).drop k := by
  have := List.take_append_drop k (l.take t)
  rw [List.take_take, Nat.min_eq_left h2] at this
  exact this.symm
 unfold mid
 exact (congrArg (List.drop f) h).trans (List.drop_append_of_le_length (by simp; omega))
theorem pcs_prefix {d : Int} {s : Sm} {l : List It} {f k t : Nat} (h1 : f ≤ k) (h2 : k ≤ t) (h3 : t ≤ l.length) : pcsOf d s (mid l f k) <+: allPcs d s l f t := by
 obtain ⟨r, hr⟩ := mid_split h1 h2 h3
 unfold allPcs
 rw [hr, show pcsOf d s (mid l f k ++ r) = _ from pcs_append d s _ _ _, List.append_assoc]
 exact List.prefix_append _ _

theorem moved_bd {d : Int} {s a : Sm} {n : Nat} (hn : n ≤ 5001) (ha : a.bd n) (hs : s.bd n) (h1 : -60000000 ≤ d) (h2 : d ≤ 10000) : -1000000000000000000 ≤ moved d s a ∧ moved d s a ≤ 1000000000000000000 := by
 obtain ⟨⟨s1, s2⟩, ⟨s3, s4⟩, ⟨s5, s6⟩⟩ := hs
 obtain ⟨⟨a1, a2⟩, ⟨a3, a4⟩, ⟨a5, a6⟩⟩ := ha
 unfold moved
 split
 ·have hm := mul_bd (d := d) (a := a.y) (by omega) (by omega) a3 (by omega)
  exact spread_bd hm.1 hm.2
 ·have hm := mul_bd (d := min (-d) s.z) (a := a.z) (by omega) (by omega) a5 (by omega)
  have := spread_bd (all := s.z) hm.1 hm.2
  omega

/-- the types of the iterator's own blocks -/
def ownPi (t : TypeId) : Bool := t == 126 || t == 49

set_option maxRecDepth 100000 in
set_option maxHeartbeats 40000000 in
theorem pieces1_seq (b : Nat) (v : Value) (f t : Nat) (d : Int) (s : Sm) (l : List It) (hle : l.length ≤ 5000) (hft : f ≤ t) (ht : t ≤ l.length) (hok : ∀ x ∈ l, x.ok) (hs : s.bd 5001) (d1 : -60000000 ≤ d) (d2 : d ≤ 10000) :
  SeqX Tryz.prog ownPi 105 #[.pointer (some ⟨b, 0, none⟩)] piEnc (PiR b v f t d s l)
   (fun pre x _ => pre ++ [x] <+: allPcs d s l f t) (fun xs _ => xs = allPcs d s l f t) (fun _ _ => True) := by
 intro L J Jx W hJ hJx hY h0 hR0
 obtain ⟨hb, hsl⟩ := hR0
 obtain ⟨p, c, rfl, hla⟩ := hsl.shape
 unfold maxLen at hla
 have x0 : W.cell? ⟨b, 0, none⟩ = some (.slice p l.length c) := cell_blk hb rfl
 have x1 : W.cell? ⟨b, 1, none⟩ = some (.int .i64 f) := cell_blk hb rfl
 have x2 : W.cell? ⟨b, 2, none⟩ = some (.int .i64 t) := cell_blk hb rfl
 refine calls_of_wpIn Tryz.func105 rfl ?_
 simp only [Tryz.ntmps105, List.size_toArray, List.length_cons, List.length_nil, Nat.reduceAdd, Nat.reduceSub, Array.replicate_succ, Array.replicate_zero, List.push_toArray, List.append_toArray, List.nil_append, List.cons_append]
 gi_upto_region 1 with (fail)
 have hbW : b < W.heap.size := (Array.getElem?_eq_some_iff.1 hb).1
 have k1 : Kept W.heap.size W (W.alloc (.cells #[.int .i64 0, .int .i64 0, .int .i64 0] 126)) := Kept.alloc _ _ _
 have ha := World.alloc_heap_new W (.cells #[.int .i64 0, .int .i64 0, .int .i64 0] 126)
 have hz : (W.alloc (.cells #[.int .i64 0, .int .i64 0, .int .i64 0] 126)).heap.size = W.heap.size + 1 := by simp
 have hb1 := k1.same _ _ hb (.inl rfl)
 have hs1 := k1.sl hsl
 have hJ1 := hJ _ _ _ k1.x h0
 generalize W.alloc (.cells #[.int .i64 0, .int .i64 0, .int .i64 0] 126) = W1 at *
 clear x0 x1 x2 k1 h0
 have x1 : W1.cell? ⟨b, 1, none⟩ = some (.int .i64 f) := cell_blk hb1 rfl
 gi_wp2
 gi_loopw [4] (fun i wr => ∃ k : Nat, f ≤ k ∧ k ≤ t ∧ i = .int .i64 k ∧ J (pcsOf d s (mid l f k)) wr ∧ PiR b (.slice p l.length c) f t d s l wr ∧
  wr.heap[W.heap.size]? = some (.cells (sumC (smOf (mid l f k))) 126 (0, 0)) ∧ W.heap.size < wr.heap.size) (fun i _ => t - (RowKit.intOf i).toNat)
 case atStart => exact ⟨f, Nat.le_refl _, hft, rfl, by rw [mid_self]; exact hJ1, ⟨hb1, hs1⟩, by rw [mid_self]; exact ha, by omega⟩
 case round =>
  obtain ⟨k, hk1, hk2, rfl, hJs, hRs, hA, hsz⟩ := hrel
  have hRs' := hRs
  obtain ⟨wb, wsl⟩ := hRs
  have x0 : wr.cell? ⟨b, 0, none⟩ = some (.slice p l.length c) := cell_blk wb rfl
  have x2 : wr.cell? ⟨b, 2, none⟩ = some (.int .i64 t) := cell_blk wb rfl
  by_cases hlt : k < t
  ·have hkl : k < l.length := by omega
   obtain ⟨b', o, cap', he, e1, e2, e3⟩ := wsl.open (by rintro rfl; simp at hkl)
   cases he
   have hb' : b' < W.heap.size := by
    obtain ⟨b2, o2, c2, he2, -, -, e4⟩ := hsl.open (by rintro rfl; simp at hkl)
    cases he2
    exact cell_lt (item_cells (e4 k l[k] (List.getElem?_eq_getElem hkl))).1
   obtain ⟨r0, r1, r2, r3, r4, r5⟩ := item_cells (e3 k l[k] (List.getElem?_eq_getElem hkl))
   have hms := hid (mid_succ hk1 hkl)
   have hpre := hid (pcs_prefix (d := d) (s := s) (l := l) (f := f) (k := k + 1) (t := t) (by omega) (by omega) ht)
   have hok1 := hok _ (List.getElem_mem hkl)
   have hbd := smMid_bd l f k
   have hbd1 : (smOf (mid l f k)).bd 5001 := by obtain ⟨⟨a1, a2⟩, ⟨a3, a4⟩, ⟨a5, a6⟩⟩ := hbd; exact ⟨⟨a1, by omega⟩, ⟨a3, by omega⟩, ⟨a5, by omega⟩⟩
   rw [hms.out] at hpre
   clear e3
   gi_upto_region 5 with (fail)
   have k2 : Kept W.heap.size wr (wr.alloc (.cells (encIt l[k]).toArray 49)) := Kept.alloc _ _ _
   have hj := World.alloc_heap_new wr (.cells (encIt l[k]).toArray 49)
   have hJ2 := hJ _ _ _ k2.x hJs
   have hR2 := PiR.st 0 _ _ (Kept.alloc 0 wr (.cells (encIt l[k]).toArray 49)) hRs'
   have hA2 := k2.same _ _ hA (.inl rfl)
   have hsz2 : wr.heap.size < (wr.alloc (.cells (encIt l[k]).toArray 49)).heap.size := by simp
   dsimp only [encIt] at hj hJ2 hR2 hA2 hsz2
   clear x0 x2 k2 r0 r1 r2 r3 r4 r5
   generalize hj0 : wr.heap.size = j at *
   generalize wr.alloc _ = W2 at *
   clear hJs hRs' wb wsl hA
   obtain ⟨ok1, ok2, ok3, ok4, ok5⟩ := hok1
   have hit : l[k].kind = 1 → l[k].text.size ≠ 0 → pcsOf d s (mid l f (k + 1)) = pcsOf d s (mid l f k) ++ [((smOf (mid l f k)).w + moved d s (smOf (mid l f k)), l[k].text)] := fun h1 h2 => by rw [hms.out]; exact pcsOf_hit _ _ _ _ h1 h2
   have miss : ¬ (l[k].kind = 1 ∧ l[k].text.size ≠ 0) → pcsOf d s (mid l f (k + 1)) = pcsOf d s (mid l f k) := fun h => by rw [hms.out]; exact pcsOf_miss _ _ _ _ h
   have hsm : smOf (mid l f (k + 1)) = (smOf (mid l f k)).step l[k] := by rw [hms.out]; exact smOf_snoc _ _
   rw [← hms.out] at hpre
   clear hms
   generalize l[k] = x at *
   generalize hP1 : pcsOf d s (mid l f (k + 1)) = P1 at *
   replace hP1 := hid hP1
   generalize pcsOf d s (mid l f k) = P0 at *
   generalize hS1 : smOf (mid l f (k + 1)) = S1 at *
   replace hS1 := hid hS1
   generalize smOf (mid l f k) = S0 at *
   have s1 : W2.cell? ⟨W.heap.size, 0, none⟩ = some (.int .i64 S0.w) := cell_blk hA2 rfl
   have s2 : W2.cell? ⟨W.heap.size, 1, none⟩ = some (.int .i64 S0.y) := cell_blk hA2 rfl
   have s3 : W2.cell? ⟨W.heap.size, 2, none⟩ = some (.int .i64 S0.z) := cell_blk hA2 rfl
   have i0 : W2.cell? ⟨j, 0, none⟩ = some (.int .i64 x.kind) := cell_blk hj rfl
   have i5 : W2.cell? ⟨j, 5, none⟩ = some (.string x.text) := cell_blk hj rfl
   gi_cut [40] from 99 (fun v wx => (v = .bool false ∧ J P1 wx ∧ PiR b (.slice (some ⟨b', o, none⟩) l.length c) f t d s l wx ∧ wx.heap[W.heap.size]? = some (.cells (sumC S0) 126 (0, 0)) ∧ wx.heap[j]? = some (.cells (encIt x).toArray 49 (0, 0))) ∨ (v = .bool true ∧ Jx P1 wx))
   case first =>
    rename_i J2 K2 hJ2' hK2
    refine wpIn_mono (Q := Exit.then K2 (fun _ _ _ => False)) ?_ (fun e a w h => by cases e <;> first | exact h | exact h.elim)
    by_cases hk : x.kind = 1
    ·by_cases ht0 : x.text.size = 0
     ·have htx : x.text.toList.isEmpty = true := by rw [ByteArray.toList_eq, List.isEmpty_iff]; exact List.length_eq_zero_iff.1 (by simpa using ht0)
      have hP := miss (fun h => h.2 ht0)
      obtain ⟨kd, xw, xy, xz, xc, xt⟩ := x
      dsimp only at hk
      subst hk
      refine wpIn_region_any (by kernel_rfl) ?_
      try (change wpAnyIn _ _ _ _ _ _ _ _ _ (World.drew _))
      refine wpAnyIn_take (i := 0) (oi := ⟨some 19, _, _, _, _, _⟩) (v := ?_) rfl rfl (by kernel_rfl) (by kernel_rfl) (by kernel_rfl) (fun _ _ _ h => h) ⟨Or.inl ⟨by rfl, ?_⟩, fun _ => rfl⟩ ?_
      rotate_left
      ·intro w; go_simp <;> with_reducible rfl
      try simp only [Act.put, aS, aZ, aC]
      refine wpAnyIn_ready (rs := [1]) (by kernel_rfl) (by simp) ?_
      refine AllReadyIn.cons rfl (fun K hK => ?_) AllReadyIn.nil
      go_simp
      first | refine hK _ _ ?_ | refine ⟨trivial, hK _ _ ?_⟩ | refine ⟨fun _ _ => trivial, hK _ _ ?_⟩
      clear hK K
      try simp only [Act.put, aS, aZ, aC]
      refine wpAnyIn_take (i := 2) (oi := ⟨some 21, _, _, _, _, _⟩) (v := ?_) rfl rfl (by kernel_rfl) (by kernel_rfl) (by kernel_rfl) (fun _ _ _ h => h) ⟨Or.inl ⟨by rfl, ?_⟩, fun _ => rfl⟩ ?_
      rotate_left
      ·intro w; go_simp <;> with_reducible rfl
      try simp only [Act.put, aS, aZ, aC]
      refine wpAnyIn_take (i := 3) (oi := ⟨some 22, _, _, _, _, _⟩) (v := ?_) rfl rfl (by kernel_rfl) (by kernel_rfl) (by kernel_rfl) (fun _ _ _ h => h) ⟨Or.inl ⟨by rfl, ?_⟩, fun _ => rfl⟩ ?_
      rotate_left
      ·intro w; go_simp <;> with_reducible rfl
      try simp only [Act.put, aS, aZ, aC]
      refine wpAnyIn_take (i := 4) (oi := ⟨some 23, _, _, _, _, _⟩) (v := ?_) rfl rfl (by kernel_rfl) (by kernel_rfl) (by kernel_rfl) (fun _ _ _ h => h) ⟨Or.inl ⟨by rfl, ?_⟩, fun _ => rfl⟩ ?_
      rotate_left
      ·intro w; go_simp <;> with_reducible rfl
      try simp only [Act.put, aS, aZ, aC]
      refine wpAnyIn_ready (rs := [5]) (by kernel_rfl) (by simp) ?_
      refine AllReadyIn.cons rfl (fun K hK => ?_) AllReadyIn.nil
      go_simp
      first | refine hK _ _ ?_ | refine ⟨trivial, hK _ _ ?_⟩ | refine ⟨fun _ _ => trivial, hK _ _ ?_⟩
      clear hK K
      try simp only [Act.put, aS, aZ, aC]
      refine wpAnyIn_take (i := 6) (oi := ⟨some 25, _, _, _, _, _⟩) (v := ?_) rfl rfl (by kernel_rfl) (by kernel_rfl) (by kernel_rfl) (fun _ _ _ h => h) ⟨Or.inl ⟨by rfl, ?_⟩, fun _ => rfl⟩ ?_
      rotate_left
      ·intro w; go_simp <;> with_reducible rfl
      try simp only [Act.put, aS, aZ, aC]
      refine wpAnyIn_take (i := 7) (oi := ⟨some 26, _, _, _, _, _⟩) (v := ?_) rfl rfl (by kernel_rfl) (by kernel_rfl) (by kernel_rfl) (fun _ _ _ h => h) ⟨Or.inl ⟨by rfl, ?_⟩, fun _ => rfl⟩ ?_
      rotate_left
      ·intro w; go_simp <;> with_reducible rfl
      try simp only [Act.put, aS, aZ, aC]
      refine wpAnyIn_take (i := 8) (oi := ⟨some 27, _, _, _, _, _⟩) (v := ?_) rfl rfl (by kernel_rfl) (by kernel_rfl) (by kernel_rfl) (fun _ _ _ h => h) ⟨Or.inl ⟨by rfl, ?_⟩, fun _ => rfl⟩ ?_
      rotate_left
      ·intro w; go_simp <;> with_reducible rfl
      try simp only [Act.put, aS, aZ, aC]
      refine wpAnyIn_take (i := 9) (oi := ⟨some 28, _, _, _, _, _⟩) rfl rfl (by kernel_rfl) (by kernel_rfl) (by kernel_rfl) (fun _ _ _ h => h) ⟨Or.inr ⟨by rfl, rfl⟩, fun _ => rfl⟩ ?_
      try simp only [Act.put, aS, aZ, aC]
      refine wpAnyIn_take (i := 10) (oi := ⟨some 29, _, _, _, _, _⟩) rfl rfl (by kernel_rfl) (by kernel_rfl) (by kernel_rfl) (fun _ _ _ h => h) ⟨Or.inr ⟨by rfl, rfl⟩, fun _ => rfl⟩ ?_
      try simp only [Act.put, aS, aZ, aC]
      refine wpAnyIn_take (i := 11) (oi := ⟨some 30, _, _, _, _, _⟩) rfl rfl (by kernel_rfl) (by kernel_rfl) (by kernel_rfl) (fun _ _ _ h => h) ⟨Or.inr ⟨by rfl, rfl⟩, fun _ => rfl⟩ ?_
      try simp only [Act.put, aS, aZ, aC]
      refine wpAnyIn_take (i := 12) (oi := ⟨some 31, _, _, _, _, _⟩) rfl rfl (by kernel_rfl) (by kernel_rfl) (by kernel_rfl) (fun _ _ _ h => h) ⟨Or.inr ⟨by rfl, rfl⟩, fun _ => rfl⟩ ?_
      try simp only [Act.put, aS, aZ, aC]
      refine wpAnyIn_take (i := 13) (oi := ⟨some 32, _, _, _, _, _⟩) rfl rfl (by kernel_rfl) (by kernel_rfl) (by kernel_rfl) (fun _ _ _ h => h) ⟨Or.inr ⟨by rfl, rfl⟩, fun _ => rfl⟩ ?_
      try simp only [Act.put, aS, aZ, aC]
      refine wpAnyIn_take (i := 16) (oi := ⟨some 35, _, _, _, _, _⟩) rfl rfl (by kernel_rfl) (by kernel_rfl) (by kernel_rfl) (fun _ _ _ h => h) ⟨Or.inr ⟨by rfl, rfl⟩, fun _ => rfl⟩ ?_
      try simp only [Act.put, aS, aZ, aC]
      refine wpAnyIn_take (i := 17) (oi := ⟨some 36, _, _, _, _, _⟩) rfl rfl (by kernel_rfl) (by kernel_rfl) (by kernel_rfl) (fun _ _ _ h => h) ⟨Or.inr ⟨by rfl, rfl⟩, fun _ => rfl⟩ ?_
      try simp only [Act.put, aS, aZ, aC]
      refine wpAnyIn_ready (rs := [14]) (by kernel_rfl) (by simp) ?_
      refine AllReadyIn.cons rfl (fun K hK => ?_) AllReadyIn.nil
      go_simp
      first | refine hK _ _ ?_ | refine ⟨trivial, hK _ _ ?_⟩ | refine ⟨fun _ _ => trivial, hK _ _ ?_⟩
      clear hK K
      try simp only [Act.put, aS, aZ, aC]
      refine wpAnyIn_take (i := 15) (oi := ⟨some 34, _, _, _, _, _⟩) rfl rfl (by kernel_rfl) (by kernel_rfl) (by kernel_rfl) (fun _ _ _ h => h) ⟨Or.inr ⟨by rfl, rfl⟩, fun _ => rfl⟩ ?_
      try simp only [Act.put, aS, aZ, aC]
      refine wpAnyIn_take (i := 18) (oi := ⟨some 37, _, _, _, _, _⟩) rfl rfl (by kernel_rfl) (by kernel_rfl) (by kernel_rfl) (fun _ _ _ h => h) ⟨Or.inr ⟨by rfl, rfl⟩, fun _ => rfl⟩ ?_
      try simp only [Act.put, aS, aZ, aC]
      refine wpAnyIn_ready (rs := [19]) (by kernel_rfl) (by simp) ?_
      refine AllReadyIn.cons rfl (fun K hK => ?_) AllReadyIn.nil
      go_simp
      first | refine hK _ _ ?_ | refine ⟨trivial, hK _ _ ?_⟩ | refine ⟨fun _ _ => trivial, hK _ _ ?_⟩
      clear hK K
      try simp only [Act.put, aS, aZ, aC]
      refine wpAnyIn_take (i := 20) (oi := ⟨some 39, _, _, _, _, _⟩) rfl rfl (by kernel_rfl) (by kernel_rfl) (by kernel_rfl) (fun _ _ _ h => h) ⟨Or.inr ⟨by rfl, rfl⟩, fun _ => rfl⟩ ?_
      try simp only [Act.put, aS, aZ, aC]
      refine wpAnyIn_take (i := 21) (oi := ⟨some 40, _, _, _, _, _⟩) (v := ?_) rfl rfl (by kernel_rfl) (by kernel_rfl) (by kernel_rfl) (fun _ _ _ h => h) ⟨Or.inl ⟨by rfl, ?_⟩, fun _ => rfl⟩ ?_
      rotate_left
      ·intro w; go_simp <;> with_reducible rfl
      try simp only [Act.put, aS, aZ, aC]
      refine wpAnyIn_done (by kernel_rfl) ?_ _
      first | refine hK2 _ _ (Met.intro (hJ2' _ _ ?_)) | refine Met.intro (hJ2' _ _ ?_) | refine hJ2' _ _ ?_
      (repeat apply Exists.intro)
      refine ⟨?_, rfl⟩
      refine .inl ⟨rfl, ?_, PiR.st 0 _ _ (Kept.drew 0 _) hR2, hA2, hj⟩
      rw [hP]
      exact hJ _ _ _ (Kept.drew _ _).x hJ2
     ·have htx : x.text.toList.isEmpty = false := by rw [ByteArray.toList_eq]; cases h : x.text.data.toList with
       | nil => exact absurd (by rw [← ByteArray.size_data, ← Array.length_toList, h]; rfl) ht0
       | cons => rfl
      have hP := hit hk ht0
      obtain ⟨kd, xw, xy, xz, xc, xt⟩ := x
      dsimp only at hk
      subst hk
      have hjW : W.heap.size ≤ j := by omega
      dsimp only at hP i5 htx hpre hj
      have hmb := moved_bd (n := 5001) (Nat.le_refl _) (a := S0) hbd1 hs d1 d2
      have cm := fun w => moved_any (.slice (some ⟨b', o, none⟩) l.length c) f t d s S0 w 5001 (by omega) hs hbd1 d1 d2
      obtain ⟨X, hX⟩ : ∃ X, S0.w + moved d s S0 = X := ⟨_, rfl⟩
      have r1 : IntKind.i64.wrap (S0.w + moved d s S0) = X := by rw [← hX]; exact IntWalk.i64_in _ (by have := hbd1.1; omega)
      rw [hX] at hP
      have hadm : P0 ++ [(X, xt)] <+: allPcs d s l f t := hP ▸ hpre
      clear hX hmb hbd hbd1
      have l0 : W2.cell? ⟨b, 0, none⟩ = some (.slice (some ⟨b', o, none⟩) l.length c) := cell_blk hR2.1 rfl
      have l1 : W2.cell? ⟨b, 1, none⟩ = some (.int .i64 f) := cell_blk hR2.1 rfl
      have l2 : W2.cell? ⟨b, 2, none⟩ = some (.int .i64 t) := cell_blk hR2.1 rfl
      have l3 : W2.cell? ⟨b, 3, none⟩ = some (.int .i64 d) := cell_blk hR2.1 rfl
      have l4 : W2.cell? ⟨b, 4, none⟩ = some (.int .i64 s.w) := cell_blk hR2.1 rfl
      have l5 : W2.cell? ⟨b, 5, none⟩ = some (.int .i64 s.y) := cell_blk hR2.1 rfl
      have l6 : W2.cell? ⟨b, 6, none⟩ = some (.int .i64 s.z) := cell_blk hR2.1 rfl
      replace cm := hid cm
      have yq : ∀ (W1 W3 : World) (e : Ending), W1.heap[W.heap.size]? = some (.cells (sumC S0) 126 (0, 0)) → W1.heap[j]? = some (.cells (encIt ⟨1, xw, xy, xz, xc, xt⟩).toArray 49 (0, 0)) → True →
        ((e = .returned (.bool true) ∧ J (P0 ++ [(X, xt)]) W3 ∧ PiR b (.slice (some ⟨b', o, none⟩) l.length c) f t d s l W3 ∧ KeepsX ownPi W.heap.size W1 W3) ∨ (e = .returned (.bool false) ∧ Jx (P0 ++ [(X, xt)]) W3)) →
        ∃ r, e = .returned (.bool r) ∧ Hid ((r = true ∧ J P1 W3 ∧ PiR b (.slice (some ⟨b', o, none⟩) l.length c) f t d s l W3 ∧ W3.heap[W.heap.size]? = some (.cells (sumC S0) 126 (0, 0)) ∧ W3.heap[j]? = some (.cells (encIt ⟨1, xw, xy, xz, xc, xt⟩).toArray 49 (0, 0))) ∨ (r = false ∧ Jx P1 W3)) := by
       rintro W1 W3 e h1 h2 _ (⟨rfl, g1, g2, g3⟩ | ⟨rfl, g1⟩)
       ·exact ⟨true, rfl, .inl ⟨rfl, hP ▸ g1, g2, g3.same _ _ (Nat.le_refl _) h1 (.inr rfl), g3.same _ _ hjW h2 (.inr rfl)⟩⟩
       ·exact ⟨false, rfl, .inr ⟨rfl, hP ▸ g1⟩⟩
      replace yq := hid yq
      first | gi_region_with (first | (refine ⟨trivial, rfl, (callsIn_wide.2 (cm.out _)).mono ?_⟩; rintro e w' ⟨rfl, hBm⟩; have km := (Kept.drew W.heap.size W2).trans (Kept.of_below hBm W.heap.size); have s1 := km.cell s1; have i5 := km.cell i5; have hJm := hJ _ _ _ km.x hJ2; have hRm := PiR.st 0 _ _ ((Kept.drew 0 W2).trans (Kept.of_below hBm 0)) hR2; have hAm := km.same _ _ hA2 (.inl rfl); have hjm := km.same _ _ hj (.inl rfl); obtain ⟨fn, tmps, assign, body, hy, hRd⟩ := hY P0 (X, xt) w' hJm hRm hadm; clear km hBm hJ2 hR2 hA2 hj hY; dsimp only [piEnc] at hy) | (refine ⟨rfl, hRd.mono ?_⟩; rintro e W3 hW3; obtain ⟨r, rfl, hr⟩ := yq.out _ _ _ hAm hjm trivial hW3; clear hW3 hy hRd hAm hjm))
      all_goals
       first | refine hK2 _ _ (Met.intro (hJ2' _ _ ?_)) | refine Met.intro (hJ2' _ _ ?_) | refine hJ2' _ _ ?_
       (repeat apply Exists.intro)
       refine ⟨?_, rfl⟩
       rcases hr.out with ⟨rfl, hr2⟩ | ⟨rfl, hr2⟩
       ·exact .inl ⟨rfl, hr2⟩
       ·exact .inr ⟨rfl, hr2⟩
    ·have hk' : (x.kind == 1) = false := by simpa using hk
     have hP := miss (fun h => hk h.1)
     refine wpIn_region_any (by kernel_rfl) ?_
     try (change wpAnyIn _ _ _ _ _ _ _ _ _ (World.drew _))
     refine wpAnyIn_take (i := 0) (oi := ⟨some 19, _, _, _, _, _⟩) (v := ?_) rfl rfl (by kernel_rfl) (by kernel_rfl) (by kernel_rfl) (fun _ _ _ h => h) ⟨Or.inl ⟨by rfl, ?_⟩, fun _ => rfl⟩ ?_
     rotate_left
     ·intro w; go_simp <;> with_reducible rfl
     try simp only [Act.put, aS, aZ, aC]
     refine wpAnyIn_ready (rs := [1]) (by kernel_rfl) (by simp) ?_
     refine AllReadyIn.cons rfl (fun K hK => ?_) AllReadyIn.nil
     go_simp
     first | refine hK _ _ ?_ | refine ⟨trivial, hK _ _ ?_⟩ | refine ⟨fun _ _ => trivial, hK _ _ ?_⟩
     clear hK K
     try simp only [Act.put, aS, aZ, aC]
     refine wpAnyIn_take (i := 2) (oi := ⟨some 21, _, _, _, _, _⟩) (v := ?_) rfl rfl (by kernel_rfl) (by kernel_rfl) (by kernel_rfl) (fun _ _ _ h => h) ⟨Or.inl ⟨by rfl, ?_⟩, fun _ => rfl⟩ ?_
     rotate_left
     ·intro w; go_simp <;> with_reducible rfl
     try simp only [Act.put, aS, aZ, aC]
     refine wpAnyIn_take (i := 3) (oi := ⟨some 22, _, _, _, _, _⟩) (v := ?_) rfl rfl (by kernel_rfl) (by kernel_rfl) (by kernel_rfl) (fun _ _ _ h => h) ⟨Or.inl ⟨by rfl, ?_⟩, fun _ => rfl⟩ ?_
     rotate_left
     ·intro w; go_simp <;> with_reducible rfl
     try simp only [Act.put, aS, aZ, aC]
     refine wpAnyIn_take (i := 4) (oi := ⟨some 23, _, _, _, _, _⟩) rfl rfl (by kernel_rfl) (by kernel_rfl) (by kernel_rfl) (fun _ _ _ h => h) ⟨Or.inr ⟨by rfl, rfl⟩, fun _ => rfl⟩ ?_
     try simp only [Act.put, aS, aZ, aC]
     refine wpAnyIn_take (i := 5) (oi := ⟨some 24, _, _, _, _, _⟩) rfl rfl (by kernel_rfl) (by kernel_rfl) (by kernel_rfl) (fun _ _ _ h => h) ⟨Or.inr ⟨by rfl, rfl⟩, fun _ => rfl⟩ ?_
     try simp only [Act.put, aS, aZ, aC]
     refine wpAnyIn_take (i := 6) (oi := ⟨some 25, _, _, _, _, _⟩) rfl rfl (by kernel_rfl) (by kernel_rfl) (by kernel_rfl) (fun _ _ _ h => h) ⟨Or.inr ⟨by rfl, rfl⟩, fun _ => rfl⟩ ?_
     try simp only [Act.put, aS, aZ, aC]
     refine wpAnyIn_take (i := 7) (oi := ⟨some 26, _, _, _, _, _⟩) (v := ?_) rfl rfl (by kernel_rfl) (by kernel_rfl) (by kernel_rfl) (fun _ _ _ h => h) ⟨Or.inl ⟨by rfl, ?_⟩, fun _ => rfl⟩ ?_
     rotate_left
     ·intro w; go_simp <;> with_reducible rfl
     try simp only [Act.put, aS, aZ, aC]
     refine wpAnyIn_take (i := 8) (oi := ⟨some 27, _, _, _, _, _⟩) (v := ?_) rfl rfl (by kernel_rfl) (by kernel_rfl) (by kernel_rfl) (fun _ _ _ h => h) ⟨Or.inl ⟨by rfl, ?_⟩, fun _ => rfl⟩ ?_
     rotate_left
     ·intro w; go_simp <;> with_reducible rfl
     try simp only [Act.put, aS, aZ, aC]
     refine wpAnyIn_take (i := 9) (oi := ⟨some 28, _, _, _, _, _⟩) rfl rfl (by kernel_rfl) (by kernel_rfl) (by kernel_rfl) (fun _ _ _ h => h) ⟨Or.inr ⟨by rfl, rfl⟩, fun _ => rfl⟩ ?_
     try simp only [Act.put, aS, aZ, aC]
     refine wpAnyIn_take (i := 10) (oi := ⟨some 29, _, _, _, _, _⟩) rfl rfl (by kernel_rfl) (by kernel_rfl) (by kernel_rfl) (fun _ _ _ h => h) ⟨Or.inr ⟨by rfl, rfl⟩, fun _ => rfl⟩ ?_
     try simp only [Act.put, aS, aZ, aC]
     refine wpAnyIn_take (i := 11) (oi := ⟨some 30, _, _, _, _, _⟩) rfl rfl (by kernel_rfl) (by kernel_rfl) (by kernel_rfl) (fun _ _ _ h => h) ⟨Or.inr ⟨by rfl, rfl⟩, fun _ => rfl⟩ ?_
     try simp only [Act.put, aS, aZ, aC]
     refine wpAnyIn_take (i := 12) (oi := ⟨some 31, _, _, _, _, _⟩) rfl rfl (by kernel_rfl) (by kernel_rfl) (by kernel_rfl) (fun _ _ _ h => h) ⟨Or.inr ⟨by rfl, rfl⟩, fun _ => rfl⟩ ?_
     try simp only [Act.put, aS, aZ, aC]
     refine wpAnyIn_take (i := 13) (oi := ⟨some 32, _, _, _, _, _⟩) rfl rfl (by kernel_rfl) (by kernel_rfl) (by kernel_rfl) (fun _ _ _ h => h) ⟨Or.inr ⟨by rfl, rfl⟩, fun _ => rfl⟩ ?_
     try simp only [Act.put, aS, aZ, aC]
     refine wpAnyIn_take (i := 16) (oi := ⟨some 35, _, _, _, _, _⟩) rfl rfl (by kernel_rfl) (by kernel_rfl) (by kernel_rfl) (fun _ _ _ h => h) ⟨Or.inr ⟨by rfl, rfl⟩, fun _ => rfl⟩ ?_
     try simp only [Act.put, aS, aZ, aC]
     refine wpAnyIn_take (i := 17) (oi := ⟨some 36, _, _, _, _, _⟩) rfl rfl (by kernel_rfl) (by kernel_rfl) (by kernel_rfl) (fun _ _ _ h => h) ⟨Or.inr ⟨by rfl, rfl⟩, fun _ => rfl⟩ ?_
     try simp only [Act.put, aS, aZ, aC]
     refine wpAnyIn_ready (rs := [14]) (by kernel_rfl) (by simp) ?_
     refine AllReadyIn.cons rfl (fun K hK => ?_) AllReadyIn.nil
     go_simp
     first | refine hK _ _ ?_ | refine ⟨trivial, hK _ _ ?_⟩ | refine ⟨fun _ _ => trivial, hK _ _ ?_⟩
     clear hK K
     try simp only [Act.put, aS, aZ, aC]
     refine wpAnyIn_take (i := 15) (oi := ⟨some 34, _, _, _, _, _⟩) rfl rfl (by kernel_rfl) (by kernel_rfl) (by kernel_rfl) (fun _ _ _ h => h) ⟨Or.inr ⟨by rfl, rfl⟩, fun _ => rfl⟩ ?_
     try simp only [Act.put, aS, aZ, aC]
     refine wpAnyIn_take (i := 18) (oi := ⟨some 37, _, _, _, _, _⟩) rfl rfl (by kernel_rfl) (by kernel_rfl) (by kernel_rfl) (fun _ _ _ h => h) ⟨Or.inr ⟨by rfl, rfl⟩, fun _ => rfl⟩ ?_
     try simp only [Act.put, aS, aZ, aC]
     refine wpAnyIn_ready (rs := [19]) (by kernel_rfl) (by simp) ?_
     refine AllReadyIn.cons rfl (fun K hK => ?_) AllReadyIn.nil
     go_simp
     first | refine hK _ _ ?_ | refine ⟨trivial, hK _ _ ?_⟩ | refine ⟨fun _ _ => trivial, hK _ _ ?_⟩
     clear hK K
     try simp only [Act.put, aS, aZ, aC]
     refine wpAnyIn_take (i := 20) (oi := ⟨some 39, _, _, _, _, _⟩) rfl rfl (by kernel_rfl) (by kernel_rfl) (by kernel_rfl) (fun _ _ _ h => h) ⟨Or.inr ⟨by rfl, rfl⟩, fun _ => rfl⟩ ?_
     try simp only [Act.put, aS, aZ, aC]
     refine wpAnyIn_take (i := 21) (oi := ⟨some 40, _, _, _, _, _⟩) (v := ?_) rfl rfl (by kernel_rfl) (by kernel_rfl) (by kernel_rfl) (fun _ _ _ h => h) ⟨Or.inl ⟨by rfl, ?_⟩, fun _ => rfl⟩ ?_
     rotate_left
     ·intro w; go_simp <;> with_reducible rfl
     try simp only [Act.put, aS, aZ, aC]
     refine wpAnyIn_done (by kernel_rfl) ?_ _
     first | refine hK2 _ _ (Met.intro (hJ2' _ _ ?_)) | refine Met.intro (hJ2' _ _ ?_) | refine hJ2' _ _ ?_
     (repeat apply Exists.intro)
     refine ⟨?_, rfl⟩
     refine .inl ⟨rfl, ?_, PiR.st 0 _ _ (Kept.drew 0 _) hR2, hA2, hj⟩
     rw [hP]
     exact hJ _ _ _ (Kept.drew _ _).x hJ2
   case rest =>
    clear s1 s2 s3 i0 i5 hJ2 hR2 hA2 hj hY hpre hit miss
    rcases hcut with ⟨rfl, hJ2, hR2, hA2, hj⟩ | ⟨rfl, hJx2⟩
    ·have x2 : wc.cell? ⟨b, 2, none⟩ = some (.int .i64 t) := cell_blk hR2.1 rfl
     obtain ⟨⟨b1, b2⟩, ⟨b3, b4⟩, ⟨b5, b6⟩⟩ := hbd
     have q1 := plain_bd x.w
     have q2 := plain_bd x.y
     have q3 := plain_bd x.z
     have cw := fun w => Plain_any x.w w ok2
     have cy := fun w => Plain_any x.y w ok3
     have cz := fun w => Plain_any x.z w ok4
     obtain ⟨dk, hd⟩ : ∃ dk, (x.kind != 3) = dk := ⟨_, rfl⟩
     have hd2 : (x.kind == 3) = !dk := by rw [← hd]; cases h : (x.kind == 3) <;> simp [bne, h]
     have hsn := hid (show S1 = ⟨if dk then S0.w + plain x.w else S0.w, S0.y + plain x.y, S0.z + plain x.z⟩ by
      rw [hsm, ← hd]; unfold Sm.step; by_cases h : x.kind = 3 <;> simp [h])
     have s1 : wc.cell? ⟨W.heap.size, 0, none⟩ = some (.int .i64 S0.w) := cell_blk hA2 rfl
     have z1 : wc.frozen? ⟨W.heap.size, 0, none⟩ = false := frozen_blk hA2
     have i1 : wc.cell? ⟨j, 0, none⟩ = some (.int .i64 x.kind) := cell_blk hj rfl
     have i2 : wc.cell? ⟨j, 1, none⟩ = some (.int .i64 x.w) := cell_blk hj rfl
     have i3 : wc.cell? ⟨j, 2, none⟩ = some (.int .i64 x.y) := cell_blk hj rfl
     have i4 : wc.cell? ⟨j, 3, none⟩ = some (.int .i64 x.z) := cell_blk hj rfl
     generalize plain x.w = pw at *
     generalize plain x.y = py at *
     generalize plain x.z = pz at *
     generalize x.kind = kd at *
     replace cw := hid cw
     replace cy := hid cy
     replace cz := hid cz
     clear hsm
     have fin : ∀ W', Upd W.heap.size (sumC ⟨if dk then S0.w + pw else S0.w, S0.y + py, S0.z + pz⟩) 126 wc W' →
       J P1 W' ∧ PiR b (.slice (some ⟨b', o, none⟩) l.length c) f t d s l W' ∧ W'.heap[W.heap.size]? = some (.cells (sumC S1) 126 (0, 0)) ∧ W.heap.size < W'.heap.size := by
      intro W' hU
      refine ⟨hJ _ _ _ (KeptX.upd hU hA2 (by decide) (Nat.le_refl _)) hJ2, ⟨?_, ?_⟩, ?_, ?_⟩
      ·rw [hU.off _ (by omega)]; exact hR2.1
      ·exact hU.sl (fun a ha => by cases ha; exact Nat.ne_of_lt hb') hR2.2
      ·rw [hsn.out]; exact hU.here
      ·rw [hU.size]; exact (Array.getElem?_eq_some_iff.1 hA2).1
     replace fin := hid fin
     clear hJ2
     gi_upto_if 43 with (fail)
     gi_cut [] from 99 (fun wx => Upd W.heap.size (sumC ⟨if dk then S0.w + pw else S0.w, S0.y, S0.z⟩) 126 wc wx)
     case first =>
      rename_i J2 K2 hJ2' hK2
      cases dk
      ·gi_wp2
       first | refine hK2 _ _ (Met.intro (hJ2' _ _ ?_)) | refine Met.intro (hJ2' _ _ ?_) | refine hJ2' _ _ ?_
       (repeat apply Exists.intro)
       refine ⟨?_, rfl⟩
       exact (Upd.refl hA2).is rfl
      ·gi_wp2
       have r1 : IntKind.i64.wrap (S0.w + pw) = S0.w + pw := IntWalk.i64_in _ (by omega)
       refine wpIn_mono (Q := Exit.then K2 (fun _ _ _ => False)) ?_ (fun e a w h => by cases e <;> first | exact h | exact h.elim)
       gi_region_with (refine ⟨trivial, rfl, (callsIn_wide.2 (cw.out _)).mono ?_⟩; rintro e w' ⟨rfl, rfl⟩)
       all_goals
        first | refine hK2 _ _ (Met.intro (hJ2' _ _ ?_)) | refine Met.intro (hJ2' _ _ ?_) | refine hJ2' _ _ ?_
        (repeat apply Exists.intro)
        refine ⟨?_, rfl⟩
        exact (((Upd.refl hA2).set (i := 0) (.int .i64 (S0.w + pw))).drew).is rfl
     case rest =>
      have hc1 := hcut
      have g1 := hcut.here
      have i4' : wc.cell? ⟨j, 3, none⟩ = some (.int .i64 x.z) := by rw [hcut.cell (by simp; omega)]; exact i4
      have s2 : wc.cell? ⟨W.heap.size, 1, none⟩ = some (.int .i64 S0.y) := cell_blk g1 rfl
      have z2 : wc.frozen? ⟨W.heap.size, 1, none⟩ = false := frozen_blk g1
      have i3 : wc.cell? ⟨j, 2, none⟩ = some (.int .i64 x.y) := by rw [hcut.cell (by simp; omega)]; exact i3
      gi_wp2
      gi_cut [] from 99 (fun wx => Upd W.heap.size (sumC ⟨if dk then S0.w + pw else S0.w, S0.y + py, S0.z⟩) 126 wc wx)
      case first =>
       rename_i J2 K2 hJ2' hK2
       have r1 : IntKind.i64.wrap (S0.y + py) = S0.y + py := IntWalk.i64_in _ (by omega)
       refine wpIn_mono (Q := Exit.then K2 (fun _ _ _ => False)) ?_ (fun e a w h => by cases e <;> first | exact h | exact h.elim)
       gi_region_with (refine ⟨trivial, rfl, (callsIn_wide.2 (cy.out _)).mono ?_⟩; rintro e w' ⟨rfl, rfl⟩)
       all_goals
        first | refine hK2 _ _ (Met.intro (hJ2' _ _ ?_)) | refine Met.intro (hJ2' _ _ ?_) | refine hJ2' _ _ ?_
        (repeat apply Exists.intro)
        refine ⟨?_, rfl⟩
        exact (((Upd.refl g1).set (i := 1) (.int .i64 (S0.y + py))).drew).is rfl
      case rest =>
       have hc2 := hc1.trans hcut
       have g2 := hcut.here
       have s3 : wc.cell? ⟨W.heap.size, 2, none⟩ = some (.int .i64 S0.z) := cell_blk g2 rfl
       have z3 : wc.frozen? ⟨W.heap.size, 2, none⟩ = false := frozen_blk g2
       have i4 : wc.cell? ⟨j, 3, none⟩ = some (.int .i64 x.z) := by rw [hcut.cell (by simp; omega)]; exact i4'
       gi_wp2
       have r1 : IntKind.i64.wrap (S0.z + pz) = S0.z + pz := IntWalk.i64_in _ (by omega)
       refine wpIn_nrm ?_
       gi_region_with (refine ⟨trivial, rfl, (callsIn_wide.2 (cz.out _)).mono ?_⟩; rintro e w' ⟨rfl, rfl⟩)
       all_goals
        clear r1
        dsimp only [Nrm]
        obtain ⟨f1, f2, f3, f4⟩ := fin.out _ (hc2.trans ((((Upd.refl g2).set (i := 2) (.int .i64 (S0.z + pz))).drew).is rfl))
        clear fin
        gi_wp2
        refine ⟨?_, ?_⟩
        ·exact ⟨k + 1, by omega, by omega, by go_num, by rw [hP1.out]; exact f1, f2, by rw [hS1.out]; exact f3, f4⟩
        ·simp [RowKit.intOf]; omega
    ·gi_wp2
     refine bodyPost_ret (results_none rfl _ _ _) rfl ?_
     exact ⟨⟨_, rfl⟩, .inr ⟨_, trivial, hJx2⟩⟩
  ·have hkt : k = t := by omega
   subst hkt
   have hA1 : allPcs d s l f k = pcsOf d s (mid l f k) ++ (if isPen l k then [((smOf (mid l f k)).w + moved d s (smOf (mid l f k)), dash)] else []) := rfl
   have HA := hid hA1
   clear hA1
   by_cases hkl : k < l.length
   ·obtain ⟨b', o, cap', he, e1, e2, e3⟩ := wsl.open (by rintro rfl; simp at hkl)
    cases he
    obtain ⟨r0, r1, -⟩ := item_cells (e3 k l[k] (List.getElem?_eq_getElem hkl))
    clear e3
    by_cases hp : l[k].kind = 3
    ·have hip := isPen_yes hkl hp
     rw [hip] at HA
     have hbd := smMid_bd l f k
     have hbd1 : (smOf (mid l f k)).bd 5001 := by obtain ⟨⟨a1, a2⟩, ⟨a3, a4⟩, ⟨a5, a6⟩⟩ := hbd; exact ⟨⟨a1, by omega⟩, ⟨a3, by omega⟩, ⟨a5, by omega⟩⟩
     have hmb := moved_bd (n := 5001) (Nat.le_refl _) (a := smOf (mid l f k)) hbd1 hs d1 d2
     have cm := fun w => moved_any (.slice (some ⟨b', o, none⟩) l.length c) f k d s (smOf (mid l f k)) w 5001 (by omega) hs hbd1 d1 d2
     generalize pcsOf d s (mid l f k) = P0 at *
     generalize smOf (mid l f k) = S0 at *
     obtain ⟨X, hX⟩ : ∃ X, S0.w + moved d s S0 = X := ⟨_, rfl⟩
     have rr1 : IntKind.i64.wrap (S0.w + moved d s S0) = X := by rw [← hX]; exact IntWalk.i64_in _ (by have := hbd1.1; omega)
     rw [hX] at HA
     have hadm : P0 ++ [(X, dash)] <+: allPcs d s l f k := by rw [HA.out]; exact List.prefix_refl _
     clear hX hmb hbd hbd1
     rw [hp] at r0
     generalize l[k] = x at *
     have l0 : wr.cell? ⟨b, 0, none⟩ = some (.slice (some ⟨b', o, none⟩) l.length c) := cell_blk hRs'.1 rfl
     have l1 : wr.cell? ⟨b, 1, none⟩ = some (.int .i64 f) := cell_blk hRs'.1 rfl
     have l3 : wr.cell? ⟨b, 3, none⟩ = some (.int .i64 d) := cell_blk hRs'.1 rfl
     have l4 : wr.cell? ⟨b, 4, none⟩ = some (.int .i64 s.w) := cell_blk hRs'.1 rfl
     have l5 : wr.cell? ⟨b, 5, none⟩ = some (.int .i64 s.y) := cell_blk hRs'.1 rfl
     have l6 : wr.cell? ⟨b, 6, none⟩ = some (.int .i64 s.z) := cell_blk hRs'.1 rfl
     have s1 : wr.cell? ⟨W.heap.size, 0, none⟩ = some (.int .i64 S0.w) := cell_blk hA rfl
     have s2 : wr.cell? ⟨W.heap.size, 1, none⟩ = some (.int .i64 S0.y) := cell_blk hA rfl
     have s3 : wr.cell? ⟨W.heap.size, 2, none⟩ = some (.int .i64 S0.z) := cell_blk hA rfl
     replace cm := hid cm
     have yz : ∀ (W1 W3 : World) (e : Ending),
       ((e = .returned (.bool true) ∧ J (P0 ++ [(X, dash)]) W3 ∧ PiR b (.slice (some ⟨b', o, none⟩) l.length c) f k d s l W3 ∧ KeepsX ownPi W.heap.size W1 W3) ∨ (e = .returned (.bool false) ∧ Jx (P0 ++ [(X, dash)]) W3)) →
       ∃ r, e = .returned (.bool r) ∧ Hid ((J (P0 ++ [(X, dash)]) W3 ∧ PiR b (.slice (some ⟨b', o, none⟩) l.length c) f k d s l W3) ∨ Jx (P0 ++ [(X, dash)]) W3) := by
      rintro W1 W3 e (⟨rfl, g1, g2, -⟩ | ⟨rfl, g1⟩)
      ·exact ⟨true, rfl, .inl ⟨g1, g2⟩⟩
      ·exact ⟨false, rfl, .inr g1⟩
     replace yz := hid yz
     gi_wp2
     refine wpIn_nrm ?_
     gi_region_with (first
      | (refine ⟨trivial, rfl, (callsIn_wide.2 (cm.out _)).mono ?_⟩; rintro e w' ⟨rfl, hBm⟩; have km := (Kept.drew W.heap.size wr).trans (Kept.of_below hBm W.heap.size); have s1 := km.cell s1; have hJm := hJ _ _ _ km.x hJs; have hRm := PiR.st 0 _ _ ((Kept.drew 0 wr).trans (Kept.of_below hBm 0)) hRs'; obtain ⟨fn, tmps, assign, body, hy, hRd⟩ := hY P0 (X, dash) w' hJm hRm hadm; clear km hBm hJs hRs' hY; dsimp only [piEnc, dash] at hy)
      | (refine ⟨rfl, hRd.mono ?_⟩; rintro e W3 hW3; obtain ⟨r, rfl, hr⟩ := yz.out _ _ _ hW3; clear hW3 hy hRd))
     all_goals
      dsimp only [Nrm]
      gi_wp2
      go_end0
      rcases hr.out with ⟨g1, g2⟩ | g1
      ·exact ⟨⟨_, rfl⟩, .inl ⟨_, rfl, by rw [HA.out]; exact g1, g2⟩⟩
      ·exact ⟨⟨_, rfl⟩, .inr ⟨_, trivial, g1⟩⟩
    ·have hip := isPen_no hkl hp
     have hp2 : (l[k].kind == 3) = false := by simpa using hp
     rw [hip] at HA
     generalize l[k].kind = kd at *
     gi_wp2
     go_end0
     refine ⟨⟨_, rfl⟩, .inl ⟨_, rfl, ?_, hRs'⟩⟩
     rw [HA.out]; simpa using hJs
   ·have hip := isPen_end (l := l) (t := k) (by omega)
    rw [hip] at HA
    have hkl2 : k = l.length := by omega
    gi_wp2
    go_end0
    refine ⟨⟨_, rfl⟩, .inl ⟨_, rfl, ?_, hRs'⟩⟩
    rw [HA.out]; simpa using hJs

set_option maxRecDepth 100000 in
set_option maxHeartbeats 2000000 in
theorem pieces_any (v : Value) (f t : Nat) (d : Int) (s : Sm) (w : World) (p : Option Addr) (m c : Nat) (ev : v = .slice p m c) :
  Calls Tryz.prog 79 #[.agg (lineC v f t d s)] w fun e w' =>
   e = .returned (.func (.func 105) #[] #[.pointer (some ⟨w.heap.size, 0, none⟩)]) ∧ w' = w.alloc (.cells (lineC v f t d s) 132) := by
 subst ev
 unfold lineC
 go_enter Tryz.func79, Tryz.ntmps79
 go_wp2
 go_ret
 exact ⟨rfl, rfl⟩
end Go.Proofs.YtempicociampoaaGreatDoor
