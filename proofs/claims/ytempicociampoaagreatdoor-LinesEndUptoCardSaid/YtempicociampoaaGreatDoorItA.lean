/- The walks of a part as items: glue, boxes, a word's pieces. -/
import Derived.Test.YtempicociampoaaGreatDoorItP
import Derived.Test.YtempicociampoaaGreatDoorJ12
import Derived.Test.YtempicociampoaaGreatDoorJ9
import Derived.Sort.CutIn
import Derived.Test.YtempicociampoaaGreatDoorJ14
import Derived.Test.YtempicociampoaaGreatDoorHypU
import Derived.Test.YtempicociampoaaGreatDoorJ18
namespace Go.Proofs.YtempicociampoaaGreatDoor
open Go.RowKit Go.Shelf
attribute [local go_sem] Oper.semAt_some

theorem outIt {fn : Func} {p : Nat} (h : fn.results = #[.cell p 49]) {R : Ending → World → Prop} {a : Act} {w : World} {b : Nat} {x : It}
  (hp : a.tmps.getD p undef = .pointer (some ⟨b, 0, none⟩)) (hd : a.defers = [])
  (hg : w.heap[b]? = some (.cells (encIt x).toArray 49 (0, 0)))
  (hR : R (.returned (.agg (encIt x).toArray)) w) : bodyPost Tryz.prog fn R .ret a w := by
 have hk : (Tryz.prog.underlying 49).any TypeDesc.isRow = true := by kernel_rfl
 obtain ⟨d, hu, hr⟩ : ∃ d, Tryz.prog.underlying 49 = some d ∧ TypeDesc.isRow d = true := by
  cases h : Tryz.prog.underlying 49 with
  | none => rw [h] at hk; cases hk
  | some d => rw [h] at hk; exact ⟨d, rfl, hk⟩
 exact bodyPost_ret (results_cell_row (P := Tryz.prog) (fn := fn) h _ _ b _ _ _ d hp hg hu (by cases d <;> first | rfl | cases hr) (by kernel_rfl)) hd hR
theorem six {w : World} {b : Nat} {t : TypeId} {cs : Array Value} {fr : Nat × Nat} {v0 v1 v2 v3 v4 v5 : Value} (h : w.heap[b]? = some (.cells cs t fr)) (hc : cs.size = 6) :
  ((((((w.setCell ⟨b, 0, none⟩ v0).setCell ⟨b, 1, none⟩ v1).setCell ⟨b, 2, none⟩ v2).setCell ⟨b, 3, none⟩ v3).setCell ⟨b, 4, none⟩ v4).setCell ⟨b, 5, none⟩ v5).heap[b]? = some (.cells #[v0, v1, v2, v3, v4, v5] t fr) := by
 rw [setCell_blk (setCell_blk (setCell_blk (setCell_blk (setCell_blk (setCell_blk h)))))]
 obtain ⟨l⟩ := cs
 match l, hc with
 | [a, b, c, d, e, f], _ => rfl
theorem below6 {w w0 : World} {n b : Nat} {v0 v1 v2 v3 v4 v5 : Value} (h : Below n w0 w) (hb : n ≤ b) :
  Below n w0 ((((((w.setCell ⟨b, 0, none⟩ v0).setCell ⟨b, 1, none⟩ v1).setCell ⟨b, 2, none⟩ v2).setCell ⟨b, 3, none⟩ v3).setCell ⟨b, 4, none⟩ v4).setCell ⟨b, 5, none⟩ v5) :=
 (((((h.setCell (p := ⟨b, 0, none⟩) hb v0).setCell (p := ⟨b, 1, none⟩) hb v1).setCell (p := ⟨b, 2, none⟩) hb v2).setCell (p := ⟨b, 3, none⟩) hb v3).setCell (p := ⟨b, 4, none⟩) hb v4).setCell (p := ⟨b, 5, none⟩) hb v5

theorem space_any (w : World) : Calls Tryz.prog 83 #[] w fun e w' => e = .returned (.agg (encIt spaceT).toArray) ∧ Below w.heap.size w w' := by
 have he : encIt spaceT = [.int .i64 2, .int .i64 4, .int .i64 2, .int .i64 1, .int .i64 0, .string ⟨#[]⟩] := rfl
 generalize spaceT = bt at *
 go_enter Tryz.func83, Tryz.ntmps83
 go_wp2
 refine outIt (p := 0) (x := bt) rfl rfl rfl ?_ ⟨rfl, (Below.refl _ w).alloc (Nat.le_refl _) _⟩
 rw [he]
 exact World.alloc_heap_new w _
theorem tie_any (w : World) : Calls Tryz.prog 107 #[] w fun e w' => e = .returned (.agg (encIt tieT).toArray) ∧ Below w.heap.size w w' := by
 have he : encIt tieT = [.int .i64 2, .int .i64 4, .int .i64 0, .int .i64 0, .int .i64 0, .string ⟨#[]⟩] := rfl
 generalize tieT = bt at *
 go_enter Tryz.func107, Tryz.ntmps107
 go_wp2
 refine outIt (p := 0) (x := bt) rfl rfl rfl ?_ ⟨rfl, (Below.refl _ w).alloc (Nat.le_refl _) _⟩
 rw [he]
 exact World.alloc_heap_new w _
theorem box_any (s : ByteArray) (w : World) (hs : s.size ≤ 2000000) (hT : Tabs w) : Calls Tryz.prog 84 #[.string s] w fun e w' => e = .returned (.agg (encIt (boxT s)).toArray) ∧ Below w.heap.size w w' := by
 have hc := hid (fun W (h : Below w.heap.size w W) => MText_any s W hs (hT.below h))
 have he : encIt (boxT s) = [.int .i64 1, .int .i64 (tm s), .int .i64 0, .int .i64 0, .int .i64 0, .string s] := rfl
 change Hid (∀ W, _ → Calls Tryz.prog 45 #[.string s] W fun e w' => e = .returned (.int .i64 (tm s)) ∧ Below W.heap.size W w') at hc
 generalize boxT s = bt at *
 generalize tm s = n at *
 go_enter Tryz.func84, Tryz.ntmps84
 go_wp2_with (fail)
 have hB := (Below.refl w.heap.size w).alloc (Nat.le_refl _) (.cells #[.int .i64 0, .int .i64 0, .int .i64 0, .int .i64 0, .int .i64 0, .string ⟨#[]⟩] 49)
 have hn := World.alloc_heap_new w (.cells #[.int .i64 0, .int .i64 0, .int .i64 0, .int .i64 0, .int .i64 0, .string ⟨#[]⟩] 49)
 have hz := World.size_alloc w (.cells #[.int .i64 0, .int .i64 0, .int .i64 0, .int .i64 0, .int .i64 0, .string ⟨#[]⟩] 49)
 refine (hc.out _ hB).mono ?_
 rintro e w1 ⟨rfl, b1⟩
 have h1 := (b1.block w.heap.size (by omega)).trans hn
 have B1 := hB.trans (b1.mono (by omega))
 have c0 := cell_blk h1 (i := 0) rfl
 have c1 := cell_blk h1 (i := 1) rfl
 have c2 := cell_blk h1 (i := 2) rfl
 have c3 := cell_blk h1 (i := 3) rfl
 have c4 := cell_blk h1 (i := 4) rfl
 have c5 := cell_blk h1 (i := 5) rfl
 have f0 := frozen_blk h1 (i := 0)
 have f1 := frozen_blk h1 (i := 1)
 have f2 := frozen_blk h1 (i := 2)
 have f3 := frozen_blk h1 (i := 3)
 have f4 := frozen_blk h1 (i := 4)
 have f5 := frozen_blk h1 (i := 5)
 go_wp2_with (fail)
 refine outIt (p := 2) (x := bt) rfl rfl rfl ?_ ⟨rfl, below6 B1 (Nat.le_refl _)⟩
 rw [he]
 exact six h1 rfl
theorem wpieces_any (s : ByteArray) (w : World) :
  Calls Tryz.prog 108 #[.string s] w fun e w' => e = .returned (.func (.func 120) #[] #[.pointer (some ⟨w.heap.size, 0, none⟩)]) ∧ w' = w.alloc (.cells #[.string s] 9) := by
 go_enter Tryz.func108, Tryz.ntmps108
 go_wp2
 go_ret
 exact ⟨rfl, rfl⟩

def pkEnc (x : Nat × ByteArray) : Array Value := #[.int .i64 x.1, .string x.2]
/-- what the pieces' iterator reads: the word, the library's table -/
def PcR (s : ByteArray) (b : Nat) (W : World) : Prop := W.heap[b]? = some (.cells #[.string s] 9 (0, 0)) ∧ Asp W
theorem PcR.st {s : ByteArray} {b : Nat} (B : Nat) : St B (PcR s b) := fun _ _ hk ⟨h1, h2⟩ => ⟨hk.same _ _ h1 (.inl rfl), h2.kept hk⟩

set_option maxRecDepth 100000 in
set_option maxHeartbeats 4000000 in
theorem wpieces1_seq (s : ByteArray) (hs : s.size ≤ 2000000) (b : Nat) :
  SeqX Tryz.prog (fun t => t == 3) 120 #[.pointer (some ⟨b, 0, none⟩)] pkEnc (PcR s b) (fun pre x _ => pre ++ [x] <+: pcsL s) (fun xs _ => xs = pcsL s) (fun _ _ => True) := by
 intro L J Jx W hJ hJx hY h0 hR0
 have hc : W.cell? ⟨b, 0, none⟩ = some (.string s) := cell_blk (i := 0) hR0.1 rfl
 have hb : b < W.heap.size := (Array.getElem?_eq_some_iff.1 hR0.1).1
 have hP := hid (fun (W1 : World) (h : Below W.heap.size W W1) => (PointsO_any s W1 hs (hR0.2.below h)).mono (fun e w' ⟨v, h1, h2, h3⟩ => (⟨v, h1, owns_down h.size h2, h3, h.trans (h3.mono h.size)⟩ :
  ∃ v, e = Ending.returned v ∧ w'.ownsRow W.heap.size 3 1 v (pointsL (numbersL s.data.toList)).length ((pointsL (numbersL s.data.toList)).flatMap encI) ∧ Below W1.heap.size W1 w' ∧ Below W.heap.size W w')))
 have hcl := cuts_len s
 have hcu : cuts s = pointsL (numbersL s.data.toList) ++ [(s.size : Int)] := rfl
 have hpl := (points_ok s.data.toList).2.2
 generalize pointsL (numbersL s.data.toList) = PL at *
 replace hcu := hid hcu
 obtain ⟨i0, hi, hz0, hz1, hz2⟩ := info_parts Tryz.infoI
 refine calls_of_wpIn Tryz.func120 rfl ?_
 simp only [Tryz.ntmps120, List.size_toArray, List.length_cons, List.length_nil, Nat.reduceAdd, Nat.reduceSub, Array.replicate_succ, Array.replicate_zero, List.push_toArray, List.append_toArray, List.nil_append, List.cons_append]
 gi_upto_region 1 with (fail)
 gi_cut [11, 12, 13] from 99 (fun v n i wx => (∃ g c, v = .slice (some ⟨g, 0, none⟩) (PL.length + 1) c ∧ wx.ownsRow W.heap.size 3 1 (.slice (some ⟨g, 0, none⟩) (PL.length + 1) c) (PL.length + 1) (PL.flatMap encI ++ [.int .i64 (s.size : Int)])) ∧ n = .int .i64 ((PL.length : Int) + 1) ∧ i = .int .i64 0 ∧ Below W.heap.size W wx)
 case first =>
  rename_i J2 K2 hJ2 hK2
  -- the region's orders
  refine wpIn_region_any (by kernel_rfl) ?_
  try (change wpAnyIn _ _ _ _ _ _ _ _ _ (World.drew _))
  refine wpAnyIn_take (i := 7) (oi := ⟨some 13, _, _, _, _, _⟩) (v := ?_) rfl rfl (by kernel_rfl) (by kernel_rfl) (by kernel_rfl) (fun _ _ _ h => h) ⟨Or.inl ⟨by rfl, ?_⟩, fun _ => rfl⟩ ?_
  rotate_left
  ·intro w; go_simp <;> with_reducible rfl
  try simp only [Act.put, List.setIfInBounds_toArray, List.set_cons_zero, List.set_cons_succ]
  refine wpAnyIn_ready (rs := [0, 2]) (by kernel_rfl) (by simp) ?_
  refine AllReadyIn.cons rfl (fun K hK => ?_) ?_
  ·go_simp
   first | refine hK _ _ ?_ | refine ⟨trivial, hK _ _ ?_⟩ | refine ⟨fun _ _ => trivial, hK _ _ ?_⟩
   clear hK K
   refine wpAnyIn_ready (rs := [1, 2]) (by kernel_rfl) (by simp) ?_
   refine AllReadyIn.cons rfl (fun K hK => ?_) ?_
   ·go_simp
    refine ⟨trivial, rfl, (callsIn_wide.2 (hP.out _ (by first | exact Below_dr (Below.refl _ _) | exact (Below_dr (Below.refl _ _)).alloc (Nat.le_refl _) _))).mono ?_⟩
    rintro e w1 ⟨v, rfl, r1, b1, B1⟩
    have c1 := (B1.cell (p := ⟨b, 0, none⟩) hb).trans hc
    first | refine hK _ _ ?_ | refine ⟨trivial, hK _ _ ?_⟩ | refine ⟨fun _ _ => trivial, hK _ _ ?_⟩
    clear hK K
    refine wpAnyIn_ready (rs := [2]) (by kernel_rfl) (by simp) ?_
    refine AllReadyIn.cons rfl (fun K hK => ?_) AllReadyIn.nil
    go_simp
    first | refine hK _ _ ?_ | refine ⟨trivial, hK _ _ ?_⟩ | refine ⟨fun _ _ => trivial, hK _ _ ?_⟩
    clear hK K
    refine wpAnyIn_take (i := 3) (oi := ⟨some 9, _, _, _, _, _⟩) (v := ?_) rfl rfl (by kernel_rfl) (by kernel_rfl) (by kernel_rfl) (fun _ _ _ h => h) ⟨Or.inl ⟨by rfl, ?_⟩, fun _ => rfl⟩ ?_
    rotate_left
    ·intro w; go_simp <;> with_reducible rfl
    try simp only [Act.put, List.setIfInBounds_toArray, List.set_cons_zero, List.set_cons_succ]
    refine wpAnyIn_ready (rs := [4]) (by kernel_rfl) (by simp) ?_
    refine AllReadyIn.cons rfl (fun K hK => ?_) AllReadyIn.nil
    go_simp
    first | refine hK _ _ ?_ | refine ⟨trivial, hK _ _ ?_⟩ | refine ⟨fun _ _ => trivial, hK _ _ ?_⟩
    clear hK K
    refine wpAnyIn_ready (rs := [5]) (by kernel_rfl) (by simp) ?_
    refine BigFrame.allReadyIn_want rfl (by rfl) (fun K hK => ?_) AllReadyIn.nil
    refine wpIn_append_own _ _ 50 rfl W.heap.size 3 i0 (.int .i64 0) 1 8 Tryz.underlying50 hi hz0 hz1 hz2 rfl (by decide) _ PL.length _ rfl (by first | exact r1 | exact r1.alloc _) ⟨_, 0, none⟩ 1 1 [.int .i64 (s.size : Int)] rfl rfl (by first | exact cells_new _ _ _ | exact cells_then b1 | exact cells_thenD b1) (by simp [Value.oneCell']) (by unfold maxLen; omega) (by omega) (by have := B1.size; simp; omega) (fun v' w2 hown hgr _ => hK _ _ ?_)
    obtain ⟨g2, c2, rfl⟩ := ownsRow_succ hown
    have hgr2 : World.grownBy _ w2 v.ownBlock := hgr
    have B2 : Below W.heap.size W w2 := by first | exact (B1.alloc B1.size _).grown hgr2 (Nat.le_trans B1.size (by simp)) (fun j e => own_base r1 e) | exact B1.grown hgr2 B1.size (fun j e => own_base r1 e)
    clear hK K
    refine wpAnyIn_take (i := 6) (oi := ⟨some 12, _, _, _, _, _⟩) (v := ?_) rfl rfl (by kernel_rfl) (by kernel_rfl) (by kernel_rfl) (fun _ _ _ h => h) ⟨Or.inl ⟨by rfl, ?_⟩, fun _ => rfl⟩ ?_
    rotate_left
    ·intro w; go_simp <;> with_reducible rfl
    try simp only [Act.put, List.setIfInBounds_toArray]
    refine wpAnyIn_done (by kernel_rfl) ?_ _
    first | refine hK2 _ _ (Met.intro (hJ2 _ _ ?_)) | refine Met.intro (hJ2 _ _ ?_) | refine hJ2 _ _ ?_
    (repeat apply Exists.intro)
    refine ⟨?_, rfl⟩
    exact ⟨⟨_, _, rfl, hown⟩, rfl, rfl, B2⟩
   refine AllReadyIn.cons rfl (fun K hK => ?_) AllReadyIn.nil
   go_simp
   first | refine hK _ _ ?_ | refine ⟨trivial, hK _ _ ?_⟩ | refine ⟨fun _ _ => trivial, hK _ _ ?_⟩
   clear hK K
   refine wpAnyIn_take (i := 3) (oi := ⟨some 9, _, _, _, _, _⟩) (v := ?_) rfl rfl (by kernel_rfl) (by kernel_rfl) (by kernel_rfl) (fun _ _ _ h => h) ⟨Or.inl ⟨by rfl, ?_⟩, fun _ => rfl⟩ ?_
   rotate_left
   ·intro w; go_simp <;> with_reducible rfl
   try simp only [Act.put, List.setIfInBounds_toArray, List.set_cons_zero, List.set_cons_succ]
   refine wpAnyIn_ready (rs := [1, 4]) (by kernel_rfl) (by simp) ?_
   refine AllReadyIn.cons rfl (fun K hK => ?_) ?_
   ·go_simp
    refine ⟨trivial, rfl, (callsIn_wide.2 (hP.out _ (by first | exact Below_dr (Below.refl _ _) | exact (Below_dr (Below.refl _ _)).alloc (Nat.le_refl _) _))).mono ?_⟩
    rintro e w1 ⟨v, rfl, r1, b1, B1⟩
    have c1 := (B1.cell (p := ⟨b, 0, none⟩) hb).trans hc
    first | refine hK _ _ ?_ | refine ⟨trivial, hK _ _ ?_⟩ | refine ⟨fun _ _ => trivial, hK _ _ ?_⟩
    clear hK K
    refine wpAnyIn_ready (rs := [4]) (by kernel_rfl) (by simp) ?_
    refine AllReadyIn.cons rfl (fun K hK => ?_) AllReadyIn.nil
    go_simp
    first | refine hK _ _ ?_ | refine ⟨trivial, hK _ _ ?_⟩ | refine ⟨fun _ _ => trivial, hK _ _ ?_⟩
    clear hK K
    refine wpAnyIn_ready (rs := [5]) (by kernel_rfl) (by simp) ?_
    refine BigFrame.allReadyIn_want rfl (by rfl) (fun K hK => ?_) AllReadyIn.nil
    refine wpIn_append_own _ _ 50 rfl W.heap.size 3 i0 (.int .i64 0) 1 8 Tryz.underlying50 hi hz0 hz1 hz2 rfl (by decide) _ PL.length _ rfl (by first | exact r1 | exact r1.alloc _) ⟨_, 0, none⟩ 1 1 [.int .i64 (s.size : Int)] rfl rfl (by first | exact cells_new _ _ _ | exact cells_then b1 | exact cells_thenD b1) (by simp [Value.oneCell']) (by unfold maxLen; omega) (by omega) (by have := B1.size; simp; omega) (fun v' w2 hown hgr _ => hK _ _ ?_)
    obtain ⟨g2, c2, rfl⟩ := ownsRow_succ hown
    have hgr2 : World.grownBy _ w2 v.ownBlock := hgr
    have B2 : Below W.heap.size W w2 := by first | exact (B1.alloc B1.size _).grown hgr2 (Nat.le_trans B1.size (by simp)) (fun j e => own_base r1 e) | exact B1.grown hgr2 B1.size (fun j e => own_base r1 e)
    clear hK K
    refine wpAnyIn_take (i := 6) (oi := ⟨some 12, _, _, _, _, _⟩) (v := ?_) rfl rfl (by kernel_rfl) (by kernel_rfl) (by kernel_rfl) (fun _ _ _ h => h) ⟨Or.inl ⟨by rfl, ?_⟩, fun _ => rfl⟩ ?_
    rotate_left
    ·intro w; go_simp <;> with_reducible rfl
    try simp only [Act.put, List.setIfInBounds_toArray]
    refine wpAnyIn_done (by kernel_rfl) ?_ _
    first | refine hK2 _ _ (Met.intro (hJ2 _ _ ?_)) | refine Met.intro (hJ2 _ _ ?_) | refine hJ2 _ _ ?_
    (repeat apply Exists.intro)
    refine ⟨?_, rfl⟩
    exact ⟨⟨_, _, rfl, hown⟩, rfl, rfl, B2⟩
   refine AllReadyIn.cons rfl (fun K hK => ?_) AllReadyIn.nil
   go_simp
   first | refine hK _ _ ?_ | refine ⟨trivial, hK _ _ ?_⟩ | refine ⟨fun _ _ => trivial, hK _ _ ?_⟩
   clear hK K
   refine wpAnyIn_ready (rs := [1]) (by kernel_rfl) (by simp) ?_
   refine AllReadyIn.cons rfl (fun K hK => ?_) AllReadyIn.nil
   go_simp
   refine ⟨trivial, rfl, (callsIn_wide.2 (hP.out _ (by first | exact Below_dr (Below.refl _ _) | exact (Below_dr (Below.refl _ _)).alloc (Nat.le_refl _) _))).mono ?_⟩
   rintro e w1 ⟨v, rfl, r1, b1, B1⟩
   have c1 := (B1.cell (p := ⟨b, 0, none⟩) hb).trans hc
   first | refine hK _ _ ?_ | refine ⟨trivial, hK _ _ ?_⟩ | refine ⟨fun _ _ => trivial, hK _ _ ?_⟩
   clear hK K
   refine wpAnyIn_ready (rs := [5]) (by kernel_rfl) (by simp) ?_
   refine BigFrame.allReadyIn_want rfl (by rfl) (fun K hK => ?_) AllReadyIn.nil
   refine wpIn_append_own _ _ 50 rfl W.heap.size 3 i0 (.int .i64 0) 1 8 Tryz.underlying50 hi hz0 hz1 hz2 rfl (by decide) _ PL.length _ rfl (by first | exact r1 | exact r1.alloc _) ⟨_, 0, none⟩ 1 1 [.int .i64 (s.size : Int)] rfl rfl (by first | exact cells_new _ _ _ | exact cells_then b1 | exact cells_thenD b1) (by simp [Value.oneCell']) (by unfold maxLen; omega) (by omega) (by have := B1.size; simp; omega) (fun v' w2 hown hgr _ => hK _ _ ?_)
   obtain ⟨g2, c2, rfl⟩ := ownsRow_succ hown
   have hgr2 : World.grownBy _ w2 v.ownBlock := hgr
   have B2 : Below W.heap.size W w2 := by first | exact (B1.alloc B1.size _).grown hgr2 (Nat.le_trans B1.size (by simp)) (fun j e => own_base r1 e) | exact B1.grown hgr2 B1.size (fun j e => own_base r1 e)
   clear hK K
   refine wpAnyIn_take (i := 6) (oi := ⟨some 12, _, _, _, _, _⟩) (v := ?_) rfl rfl (by kernel_rfl) (by kernel_rfl) (by kernel_rfl) (fun _ _ _ h => h) ⟨Or.inl ⟨by rfl, ?_⟩, fun _ => rfl⟩ ?_
   rotate_left
   ·intro w; go_simp <;> with_reducible rfl
   try simp only [Act.put, List.setIfInBounds_toArray]
   refine wpAnyIn_done (by kernel_rfl) ?_ _
   first | refine hK2 _ _ (Met.intro (hJ2 _ _ ?_)) | refine Met.intro (hJ2 _ _ ?_) | refine hJ2 _ _ ?_
   (repeat apply Exists.intro)
   refine ⟨?_, rfl⟩
   exact ⟨⟨_, _, rfl, hown⟩, rfl, rfl, B2⟩
  refine AllReadyIn.cons rfl (fun K hK => ?_) AllReadyIn.nil
  go_simp
  first | refine hK _ _ ?_ | refine ⟨trivial, hK _ _ ?_⟩ | refine ⟨fun _ _ => trivial, hK _ _ ?_⟩
  clear hK K
  refine wpAnyIn_take (i := 3) (oi := ⟨some 9, _, _, _, _, _⟩) (v := ?_) rfl rfl (by kernel_rfl) (by kernel_rfl) (by kernel_rfl) (fun _ _ _ h => h) ⟨Or.inl ⟨by rfl, ?_⟩, fun _ => rfl⟩ ?_
  rotate_left
  ·intro w; go_simp <;> with_reducible rfl
  try simp only [Act.put, List.setIfInBounds_toArray, List.set_cons_zero, List.set_cons_succ]
  refine wpAnyIn_ready (rs := [0, 4]) (by kernel_rfl) (by simp) ?_
  refine AllReadyIn.cons rfl (fun K hK => ?_) ?_
  ·go_simp
   first | refine hK _ _ ?_ | refine ⟨trivial, hK _ _ ?_⟩ | refine ⟨fun _ _ => trivial, hK _ _ ?_⟩
   clear hK K
   refine wpAnyIn_ready (rs := [1, 4]) (by kernel_rfl) (by simp) ?_
   refine AllReadyIn.cons rfl (fun K hK => ?_) ?_
   ·go_simp
    refine ⟨trivial, rfl, (callsIn_wide.2 (hP.out _ (by first | exact Below_dr (Below.refl _ _) | exact (Below_dr (Below.refl _ _)).alloc (Nat.le_refl _) _))).mono ?_⟩
    rintro e w1 ⟨v, rfl, r1, b1, B1⟩
    have c1 := (B1.cell (p := ⟨b, 0, none⟩) hb).trans hc
    first | refine hK _ _ ?_ | refine ⟨trivial, hK _ _ ?_⟩ | refine ⟨fun _ _ => trivial, hK _ _ ?_⟩
    clear hK K
    refine wpAnyIn_ready (rs := [4]) (by kernel_rfl) (by simp) ?_
    refine AllReadyIn.cons rfl (fun K hK => ?_) AllReadyIn.nil
    go_simp
    first | refine hK _ _ ?_ | refine ⟨trivial, hK _ _ ?_⟩ | refine ⟨fun _ _ => trivial, hK _ _ ?_⟩
    clear hK K
    refine wpAnyIn_ready (rs := [5]) (by kernel_rfl) (by simp) ?_
    refine BigFrame.allReadyIn_want rfl (by rfl) (fun K hK => ?_) AllReadyIn.nil
    refine wpIn_append_own _ _ 50 rfl W.heap.size 3 i0 (.int .i64 0) 1 8 Tryz.underlying50 hi hz0 hz1 hz2 rfl (by decide) _ PL.length _ rfl (by first | exact r1 | exact r1.alloc _) ⟨_, 0, none⟩ 1 1 [.int .i64 (s.size : Int)] rfl rfl (by first | exact cells_new _ _ _ | exact cells_then b1 | exact cells_thenD b1) (by simp [Value.oneCell']) (by unfold maxLen; omega) (by omega) (by have := B1.size; simp; omega) (fun v' w2 hown hgr _ => hK _ _ ?_)
    obtain ⟨g2, c2, rfl⟩ := ownsRow_succ hown
    have hgr2 : World.grownBy _ w2 v.ownBlock := hgr
    have B2 : Below W.heap.size W w2 := by first | exact (B1.alloc B1.size _).grown hgr2 (Nat.le_trans B1.size (by simp)) (fun j e => own_base r1 e) | exact B1.grown hgr2 B1.size (fun j e => own_base r1 e)
    clear hK K
    refine wpAnyIn_take (i := 6) (oi := ⟨some 12, _, _, _, _, _⟩) (v := ?_) rfl rfl (by kernel_rfl) (by kernel_rfl) (by kernel_rfl) (fun _ _ _ h => h) ⟨Or.inl ⟨by rfl, ?_⟩, fun _ => rfl⟩ ?_
    rotate_left
    ·intro w; go_simp <;> with_reducible rfl
    try simp only [Act.put, List.setIfInBounds_toArray]
    refine wpAnyIn_done (by kernel_rfl) ?_ _
    first | refine hK2 _ _ (Met.intro (hJ2 _ _ ?_)) | refine Met.intro (hJ2 _ _ ?_) | refine hJ2 _ _ ?_
    (repeat apply Exists.intro)
    refine ⟨?_, rfl⟩
    exact ⟨⟨_, _, rfl, hown⟩, rfl, rfl, B2⟩
   refine AllReadyIn.cons rfl (fun K hK => ?_) AllReadyIn.nil
   go_simp
   first | refine hK _ _ ?_ | refine ⟨trivial, hK _ _ ?_⟩ | refine ⟨fun _ _ => trivial, hK _ _ ?_⟩
   clear hK K
   refine wpAnyIn_ready (rs := [1]) (by kernel_rfl) (by simp) ?_
   refine AllReadyIn.cons rfl (fun K hK => ?_) AllReadyIn.nil
   go_simp
   refine ⟨trivial, rfl, (callsIn_wide.2 (hP.out _ (by first | exact Below_dr (Below.refl _ _) | exact (Below_dr (Below.refl _ _)).alloc (Nat.le_refl _) _))).mono ?_⟩
   rintro e w1 ⟨v, rfl, r1, b1, B1⟩
   have c1 := (B1.cell (p := ⟨b, 0, none⟩) hb).trans hc
   first | refine hK _ _ ?_ | refine ⟨trivial, hK _ _ ?_⟩ | refine ⟨fun _ _ => trivial, hK _ _ ?_⟩
   clear hK K
   refine wpAnyIn_ready (rs := [5]) (by kernel_rfl) (by simp) ?_
   refine BigFrame.allReadyIn_want rfl (by rfl) (fun K hK => ?_) AllReadyIn.nil
   refine wpIn_append_own _ _ 50 rfl W.heap.size 3 i0 (.int .i64 0) 1 8 Tryz.underlying50 hi hz0 hz1 hz2 rfl (by decide) _ PL.length _ rfl (by first | exact r1 | exact r1.alloc _) ⟨_, 0, none⟩ 1 1 [.int .i64 (s.size : Int)] rfl rfl (by first | exact cells_new _ _ _ | exact cells_then b1 | exact cells_thenD b1) (by simp [Value.oneCell']) (by unfold maxLen; omega) (by omega) (by have := B1.size; simp; omega) (fun v' w2 hown hgr _ => hK _ _ ?_)
   obtain ⟨g2, c2, rfl⟩ := ownsRow_succ hown
   have hgr2 : World.grownBy _ w2 v.ownBlock := hgr
   have B2 : Below W.heap.size W w2 := by first | exact (B1.alloc B1.size _).grown hgr2 (Nat.le_trans B1.size (by simp)) (fun j e => own_base r1 e) | exact B1.grown hgr2 B1.size (fun j e => own_base r1 e)
   clear hK K
   refine wpAnyIn_take (i := 6) (oi := ⟨some 12, _, _, _, _, _⟩) (v := ?_) rfl rfl (by kernel_rfl) (by kernel_rfl) (by kernel_rfl) (fun _ _ _ h => h) ⟨Or.inl ⟨by rfl, ?_⟩, fun _ => rfl⟩ ?_
   rotate_left
   ·intro w; go_simp <;> with_reducible rfl
   try simp only [Act.put, List.setIfInBounds_toArray]
   refine wpAnyIn_done (by kernel_rfl) ?_ _
   first | refine hK2 _ _ (Met.intro (hJ2 _ _ ?_)) | refine Met.intro (hJ2 _ _ ?_) | refine hJ2 _ _ ?_
   (repeat apply Exists.intro)
   refine ⟨?_, rfl⟩
   exact ⟨⟨_, _, rfl, hown⟩, rfl, rfl, B2⟩
  refine AllReadyIn.cons rfl (fun K hK => ?_) AllReadyIn.nil
  go_simp
  first | refine hK _ _ ?_ | refine ⟨trivial, hK _ _ ?_⟩ | refine ⟨fun _ _ => trivial, hK _ _ ?_⟩
  clear hK K
  refine wpAnyIn_ready (rs := [0]) (by kernel_rfl) (by simp) ?_
  refine AllReadyIn.cons rfl (fun K hK => ?_) AllReadyIn.nil
  go_simp
  first | refine hK _ _ ?_ | refine ⟨trivial, hK _ _ ?_⟩ | refine ⟨fun _ _ => trivial, hK _ _ ?_⟩
  clear hK K
  refine wpAnyIn_ready (rs := [1]) (by kernel_rfl) (by simp) ?_
  refine AllReadyIn.cons rfl (fun K hK => ?_) AllReadyIn.nil
  go_simp
  refine ⟨trivial, rfl, (callsIn_wide.2 (hP.out _ (by first | exact Below_dr (Below.refl _ _) | exact (Below_dr (Below.refl _ _)).alloc (Nat.le_refl _) _))).mono ?_⟩
  rintro e w1 ⟨v, rfl, r1, b1, B1⟩
  have c1 := (B1.cell (p := ⟨b, 0, none⟩) hb).trans hc
  first | refine hK _ _ ?_ | refine ⟨trivial, hK _ _ ?_⟩ | refine ⟨fun _ _ => trivial, hK _ _ ?_⟩
  clear hK K
  refine wpAnyIn_ready (rs := [5]) (by kernel_rfl) (by simp) ?_
  refine BigFrame.allReadyIn_want rfl (by rfl) (fun K hK => ?_) AllReadyIn.nil
  refine wpIn_append_own _ _ 50 rfl W.heap.size 3 i0 (.int .i64 0) 1 8 Tryz.underlying50 hi hz0 hz1 hz2 rfl (by decide) _ PL.length _ rfl (by first | exact r1 | exact r1.alloc _) ⟨_, 0, none⟩ 1 1 [.int .i64 (s.size : Int)] rfl rfl (by first | exact cells_new _ _ _ | exact cells_then b1 | exact cells_thenD b1) (by simp [Value.oneCell']) (by unfold maxLen; omega) (by omega) (by have := B1.size; simp; omega) (fun v' w2 hown hgr _ => hK _ _ ?_)
  obtain ⟨g2, c2, rfl⟩ := ownsRow_succ hown
  have hgr2 : World.grownBy _ w2 v.ownBlock := hgr
  have B2 : Below W.heap.size W w2 := by first | exact (B1.alloc B1.size _).grown hgr2 (Nat.le_trans B1.size (by simp)) (fun j e => own_base r1 e) | exact B1.grown hgr2 B1.size (fun j e => own_base r1 e)
  clear hK K
  refine wpAnyIn_take (i := 6) (oi := ⟨some 12, _, _, _, _, _⟩) (v := ?_) rfl rfl (by kernel_rfl) (by kernel_rfl) (by kernel_rfl) (fun _ _ _ h => h) ⟨Or.inl ⟨by rfl, ?_⟩, fun _ => rfl⟩ ?_
  rotate_left
  ·intro w; go_simp <;> with_reducible rfl
  try simp only [Act.put, List.setIfInBounds_toArray]
  refine wpAnyIn_done (by kernel_rfl) ?_ _
  first | refine hK2 _ _ (Met.intro (hJ2 _ _ ?_)) | refine Met.intro (hJ2 _ _ ?_) | refine hJ2 _ _ ?_
  (repeat apply Exists.intro)
  refine ⟨?_, rfl⟩
  exact ⟨⟨_, _, rfl, hown⟩, rfl, rfl, B2⟩
  -- end of the orders
 case rest =>
  obtain ⟨⟨g, c, rfl, hown⟩, rfl, rfl, hB⟩ := hcut
  have hN : PL.length + 1 = (cuts s).length := by rw [hcu.out]; simp
  have hNI : (PL.length : Int) + 1 = ((cuts s).length : Int) := by omega
  have hxs : PL.flatMap encI ++ [.int .i64 (s.size : Int)] = (cuts s).map (Value.int .i64) := by rw [hcu.out, map_encI]; simp
  rw [hN, hxs] at hown
  rw [hNI, hN]
  clear hP hc hcu hxs hpl hN hNI
  have hJ0 := hJ _ _ _ (Kept.of_below hB W.heap.size).x h0
  have hR1 := PcR.st 0 _ _ (Kept.of_below hB 0) hR0
  gi_wp2_with (fail)
  gi_loopw [3, 13] (fun f i wr => ∃ k : Nat, k ≤ (cuts s).length ∧ i = .int .i64 k ∧ f = .int .i64 (cutAt s k) ∧ J (pcsTo s k) wr ∧ PcR s b wr ∧ wr.ownsRow W.heap.size 3 1 (.slice (some ⟨g, 0, none⟩) (cuts s).length c) (cuts s).length ((cuts s).map (Value.int .i64))) (fun _ i _ => (cuts s).length - (RowKit.intOf i).toNat)
  case atStart => exact ⟨0, Nat.zero_le _, rfl, rfl, hJ0, hR1, hown⟩
  case round =>
   obtain ⟨k, hk, rfl, rfl, hJs, hRs, hown2⟩ := hrel
   have hRs' := hRs
   obtain ⟨w1, w2⟩ := hRs
   have x1 : wr.cell? ⟨b, 0, none⟩ = some (.string s) := cell_blk (i := 0) w1 rfl
   have q0 := cutAt_bd s k
   by_cases hlt : k < (cuts s).length
   ·have hltI : (k : Int) < ((cuts s).length : Int) := by omega
    have q1 := cutAt_bd s (k + 1)
    have q2 := cutAt_mono s hlt
    have hce := hown2.cells (g := g) rfl k (.int .i64 (cutAt s (k + 1))) (by
     rw [List.getElem?_map, List.getElem?_eq_getElem hlt]
     show some (Value.int .i64 (cuts s)[k]) = some (.int .i64 ((cuts s).getD k 0))
     rw [List.getD_eq_getElem?_getD, List.getElem?_eq_getElem hlt]; rfl)
    rw [show (⟨g, 0, none⟩ : Addr).add k = ⟨g, k, none⟩ by simp [Addr.add]; omega] at hce
    have hsn := pcsTo_succ s k
    have hadm : pcsTo s k ++ [(k, pieceAt s k)] <+: pcsL s := by rw [← hsn]; exact pcsTo_prefix s (by omega)
    obtain ⟨fn, tmps, assign, body, hy, hR⟩ := hY (pcsTo s k) (k, pieceAt s k) wr hJs hRs' hadm
    have hpa : pieceAt s k = s.extract (cutAt s k).toNat (cutAt s (k + 1)).toNat := rfl
    dsimp only [pkEnc] at hy
    rw [hpa] at hy
    replace hadm := hid hadm
    replace hsn := hid hsn
    have hce1 := hid (show cutAt s (k + 1) = cutAt s (k + 1) from rfl)
    obtain ⟨f0, hf0⟩ : ∃ f0 : Nat, cutAt s k = f0 := ⟨(cutAt s k).toNat, by omega⟩
    obtain ⟨f1, hf1⟩ : ∃ f1 : Nat, cutAt s (k + 1) = f1 := ⟨(cutAt s (k + 1)).toNat, by omega⟩
    rw [hf0, hf1] at q2
    rw [hf1] at q1 hce
    rw [hf0] at q0 ⊢
    rw [hf0, hf1, Int.toNat_natCast, Int.toNat_natCast] at hy
    clear hpa hce1
    replace hf0 := hid hf0
    replace hf1 := hid hf1
    have hk60 := hcl.2
    gi_wp2
    refine ⟨rfl, hR.mono ?_⟩
    rintro e W3 (⟨rfl, hJ3, hR3, hkp⟩ | ⟨rfl, hJx3⟩)
    ·have hown3 := KeptX.rng hkp (Nat.le_refl _) rfl hown2
     rw [← hsn.out] at hJ3
     gi_wp2
     refine ⟨⟨k + 1, by omega, by go_num, by rw [hf1.out], hJ3, hR3, hown3⟩, by simp [RowKit.intOf]; omega⟩
    ·gi_wp2
     refine bodyPost_ret (results_none rfl _ _ _) rfl ?_
     exact ⟨⟨_, rfl⟩, .inr ⟨_, trivial, hJx3⟩⟩
   ·obtain rfl : k = (cuts s).length := by omega
    gi_wp2
    go_end0
    exact ⟨⟨_, rfl⟩, .inl ⟨_, rfl, hJs, hRs'⟩⟩
end Go.Proofs.YtempicociampoaaGreatDoor
