/- The walk of script's words: its iterator of numbered words. -/
import Derived.Test.YtkmnmigpnbehaaaDoorScD
import Derived.Test.YtkmnmigpnbehaaaDoorMkA
import Derived.Test.YtkmnmigpnbehaaaDoorRangeQ
namespace Go.Proofs.YtkmnmigpnbehaaaDoor
open Go.RowKit Go.Shelf Go.Lib
attribute [local go_sem] Oper.semAt_some

def pairEnc (p : ByteArray × Nat) : Array Value := #[.int .i64 p.2, .string p.1]

set_option maxRecDepth 100000 in
set_option maxHeartbeats 4000000 in
theorem swords1_seq (s : ByteArray) (hs : s.size ≤ 1000000) (bl : Nat) :
    SeqQ Tryd.prog 31 #[.pointer (some ⟨bl, 0, none⟩)] pairEnc (fun W => W.heap[bl]? = some (.cells #[.string s] 9 (0, 0)))
      (fun pre x _ => pre ++ [x] <+: (pcsB 32 s).zipIdx) (fun xs _ => xs = (pcsB 32 s).zipIdx) (fun _ _ => True) := by
  intro L J0 J Jx W hJ0 hJ hJx hM hY h0 hR0
  have hbl : bl < W.heap.size := (Array.getElem?_eq_some_iff.1 hR0).1
  have hpl : (pcsB 32 s).length ≤ s.size + 1 := by
    unfold pcsB; rw [List.length_map, ← size8]; exact cutB_len 32 _
  have q0 : W.cell? ⟨bl, 0, none⟩ = some (.string s) := cell_blk (i := 0) hR0 rfl
  refine calls_of_marks Tryd.func31 rfl ?_
  simp only [Tryd.ntmps31, List.size_toArray, List.length_cons, List.length_nil, Nat.reduceAdd, Nat.reduceSub, Array.replicate_succ, Array.replicate_zero, List.push_toArray, List.append_toArray, List.nil_append, List.cons_append]
  have b0 := World.alloc_heap_new W (.cells #[.func (.yield L) #[] #[]] 79)
  have i1 := World.alloc_heap_new (W.alloc (.cells #[.func (.yield L) #[] #[]] 79)) (.cells #[.int .i64 0] 3)
  rw [World.size_alloc] at i1
  have b1 := (Kept.alloc 0 (W.alloc (.cells #[.func (.yield L) #[] #[]] 79)) (.cells #[.int .i64 0] 3)).same _ _ b0 (.inl rfl)
  obtain ⟨A1, hA1⟩ : ∃ V, (W.alloc (.cells #[.func (.yield L) #[] #[]] 79)).alloc (.cells #[.int .i64 0] 3) = V := ⟨_, rfl⟩
  rw [hA1] at b1 i1
  have hkA : Kept W.heap.size W A1 := by rw [← hA1]; exact (Kept.alloc _ _ _).trans (Kept.alloc _ _ _)
  have hzA : A1.heap.size = W.heap.size + 2 := by rw [← hA1]; simp
  have j1 := cell_blk i1 (i := 0) rfl
  have f1 := frozen_blk i1 (i := 0)
  obtain ⟨W1, hW1⟩ : ∃ V, A1.setCell ⟨W.heap.size + 1, 0, none⟩ (.int .i64 0) = V := ⟨_, rfl⟩
  have i1w : W1.heap[W.heap.size + 1]? = some (.cells #[.int .i64 0] 3 (0, 0)) := by rw [← hW1]; exact setCell_blk i1
  have b1w : W1.heap[W.heap.size]? = some (.cells #[.func (.yield L) #[] #[]] 79 (0, 0)) := by rw [← hW1]; exact (setCell_off (by omega)).trans b1
  have hk1 : Kept W.heap.size W W1 := by
    rw [← hW1]
    exact ⟨hkA.os, hkA.tape, hkA.output, by simp [World.setCell]; omega, fun k o hk ho => by
      have hlt := (Array.getElem?_eq_some_iff.1 hk).1
      exact (setCell_off (by omega)).trans (hkA.same k o hk ho)⟩
  have hz1 : W1.heap.size = W.heap.size + 2 := by rw [← hW1]; simp [World.setCell, hzA]
  have q1 : W1.cell? ⟨bl, 0, none⟩ = some (.string s) := hk1.cell q0
  have hc := hid (SplitSeq_any 32 s W1)
  gi_wp2_with (fail)
  refine ⟨trivial, rfl, (callsIn_wide.2 hc.out).mono ?_⟩
  rintro e W2 ⟨rfl, hSp, hbs, hz2, hB2⟩
  have hk2 : Kept W.heap.size W W2 := hk1.trans (Kept.of_below hB2 _)
  have b2 := (Kept.of_below hB2 0).same _ _ b1w (.inl rfl)
  have i2 := (Kept.of_below hB2 0).same _ _ i1w (.inl rfl)
  rw [hz1] at hz2 hSp hbs ⊢
  clear hc b1 b0 i1 q0 q1 hB2 hW1 hk1 hA1 hkA j1 f1 i1w b1w
  gi_wp2_with (fail)
  refine range_pB (act := ?mk) rfl (enters_of Tryd.func48 (by kernel_rfl) rfl) (split1_seq 32 s hs (W.heap.size + 2 + 1) (W.heap.size + 2) (W.heap.size + 2 + 2) (by omega) (by omega)) (fun _ => rfl)
    (fun pre V => J (W.heap.size + 5) pre.zipIdx V ∧ V.heap[bl]? = some (.cells #[.string s] 9 (0, 0)) ∧ V.heap[W.heap.size]? = some (.cells #[.func (.yield L) #[] #[]] 79 (0, 0)) ∧ V.heap[W.heap.size + 1]? = some (.cells #[.int .i64 pre.length] 3 (0, 0)) ∧ W.heap.size + 5 ≤ V.heap.size)
    (fun c pre V => c = .ret ∧ ∃ xs, Jx xs V)
    ?hI ?hIx (fun B => SpR.st B) (fun _ _ => St.pure _) (fun _ => St.pure _) (fun _ => St.pure _) ?h0 hSp (fun A C hk h => hk.same _ _ h (.inl rfl)) hbs (fun k hk => by simp; omega) ?assign ?body ?done ?stop
  case assign =>
    intro l x V K hK
    dsimp only [strEnc]
    gi_wp2
    exact hK
  case hI =>
    rintro pre A C hk ⟨h1, h2, h3, h4, h5⟩
    exact ⟨hJ _ _ _ _ (hk.box (by omega) (by omega) (by omega)) h1, hk.blk h2 (by simp; omega), hk.blk h3 (by simp), hk.blk h4 (by simp), Nat.le_trans h5 hk.size⟩
  case hIx =>
    rintro c pre A C hk ⟨rfl, xs, h1⟩
    exact ⟨rfl, xs, hJx _ _ _ (hk.boxF (by omega) (by omega)) h1⟩
  case h0 =>
    exact ⟨hM _ _ (hJ0 _ _ hk2 h0) (by omega) (by omega), hk2.same _ _ hR0 (.inl rfl), b2, i2, by omega⟩
  case done =>
    rintro D xs V hD rfl ⟨h1, h2, h3, h4, h5⟩ hR hK
    have kp := Kept.putObj (B := W.heap.size) (.deferred none) (by omega) hK rfl
    refine leave1 (fn := Tryd.f31) hK (fun _ _ => results_none rfl _ _ _) ⟨⟨_, rfl⟩, .inl ⟨_, _, rfl, hJ _ _ _ _ kp.b h1, kp.same _ _ h2 (.inl rfl)⟩⟩
  case stop =>
    rintro D c pre V hD - ⟨rfl, xs, h1⟩ hK
    have kp := Kept.putObj (B := W.heap.size) (.deferred none) (by omega) hK rfl
    gi_wp2
    refine leave1 (fn := Tryd.f31) hK (fun _ _ => results_none rfl _ _ _) ⟨⟨_, rfl⟩, .inr ⟨xs, trivial, hJx _ _ _ kp.b h1⟩⟩
  case body =>
    rintro l pre x V hl _ ⟨h1, h2, h3, h4, h5⟩ hR hadm
    have hyc := cell_blk h3 (i := 0) rfl
    have hic := cell_blk h4 (i := 0) rfl
    have hlen : pre.length ≤ 1000001 := by
      have := List.IsPrefix.length_le hadm
      simp at this; omega
    have hxz : (pre ++ [x]).zipIdx = pre.zipIdx ++ [(x, pre.length)] := by rw [List.zipIdx_append]; simp
    have hadm2 : pre.zipIdx ++ [(x, pre.length)] <+: (pcsB 32 s).zipIdx := by
      obtain ⟨t, ht⟩ := hadm
      rw [← ht, ← hxz]
      exact ⟨_, (List.zipIdx_append (xs := pre ++ [x]) (ys := t)).symm⟩
    obtain ⟨fn, tmps, assign, body, hy, hRd⟩ := hY _ _ (x, pre.length) V (by omega) h1 h2 hadm2
    dsimp only [pairEnc] at hy
    replace hadm2 := hid hadm2
    replace hxz := hid hxz
    gi_wp2_with (fail)
    refine ⟨rfl, hRd.mono ?_⟩
    have hkb : ∀ W3, KeepsM (W.heap.size + 5) W.heap.size V W3 → KeepsB (fun k => k == W.heap.size + 2) W2.heap.size V W3 := fun W3 h => ⟨h.size, fun k o hk ho => by
      rcases ho with ⟨g1, g2⟩ | g1
      · exact h.same k o (by omega) hk (.inl g2)
      · have : k = W.heap.size + 2 := by simpa using g1
        exact h.same k o (by omega) hk (.inr (by omega))⟩
    rintro e W3 (⟨rfl, hJ4, hR4, hK4⟩ | ⟨rfl, hJx4, hK4⟩)
    · have i3 := hK4.same _ _ (by omega) h4 (.inr (by omega))
      have j3 := cell_blk i3 (i := 0) rfl
      have f3 := frozen_blk i3 (i := 0)
      have hone : ∀ W4, KeepsB (fun k => k == W.heap.size + 2) W2.heap.size V W3 → W4 = W3.setCell ⟨W.heap.size + 1, 0, none⟩ (.int .i64 ((pre.length : Int) + 1)) → KeepsB (fun k => k == W.heap.size + 2) W2.heap.size V W4 := fun W4 h e => by
        subst e
        refine h.trans ⟨by simp [World.setCell], fun k o hk ho => (setCell_off ?_).trans hk⟩
        rcases ho with ⟨g, -⟩ | g
        · omega
        · have : k = W.heap.size + 2 := by simpa using g
          omega
      have hlenx : ((pre ++ [x]).length : Int) = (pre.length : Int) + 1 := by simp
      replace hlenx := hid hlenx
      gi_wp2_with (fail)
      refine ⟨hone _ (hkb _ hK4) rfl, ⟨(setCell_off (by omega)).trans (hK4.same _ _ (by omega) hR.1 (.inr (by omega))), (setCell_off (by omega)).trans (hK4.same _ _ (by omega) hR.2 (.inr (by omega)))⟩, ?_, (setCell_off (by omega)).trans hR4, (setCell_off (by omega)).trans (hK4.same _ _ (by omega) h3 (.inr (by omega))), ?_, ?_⟩
      · rw [hxz.out]
        exact hJ _ _ _ _ (KeptB.setCell _ _ (by simp [inM]) _) hJ4
      · rw [hlenx.out]
        exact setCell_blk i3
      · have := hK4.size
        simp only [World.setCell, Array.size_modify]
        omega
    · gi_wp2_with (fail)
      exact ⟨hkb _ hK4, rfl, _, hJx4⟩
end Go.Proofs.YtkmnmigpnbehaaaDoor
