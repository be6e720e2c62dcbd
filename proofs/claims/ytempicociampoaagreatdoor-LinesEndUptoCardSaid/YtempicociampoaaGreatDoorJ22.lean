/- The walk of lines.Text (printed by gen_lnl.py). The walks of slices.AppendSeq and Collect, of lines: each with its pieces. -/
import Derived.Test.YtempicociampoaaGreatDoorLnK
import Derived.Test.YtempicociampoaaGreatDoorJ6
import Derived.Test.YtempicociampoaaGreatDoorRangeM
import Derived.Test.YtempicociampoaaGreatDoorJ10
import Derived.Test.YtempicociampoaaGreatDoorJ12
namespace Go.Proofs.YtempicociampoaaGreatDoor
open Go.RowKit Go.Shelf Go.Lib

/-- a line as it lies: its pieces' slice beside it -/
def encLv (x : Value × Ln) : List Value := [.int .i64 x.2.kind, .bool x.2.first, .bool x.2.last, .bool x.2.over, x.1]
theorem linesTo_le {tw : ByteArray → Int} {ls : List (List (Int × ByteArray))} {k m : Nat} (h : k ≤ m) : (linesTo tw ls k).length ≤ (linesTo tw ls m).length := by
 induction m with
 | zero =>
  obtain rfl : k = 0 := by omega
  exact Nat.le_refl _
 | succ m ih =>
  by_cases e : k = m + 1
  ·subst e; exact Nat.le_refl _
  ·refine Nat.le_trans (ih (by omega)) ?_
   rw [linesTo, List.length_append]; omega
set_option maxRecDepth 100000 in
set_option maxHeartbeats 4000000 in
theorem LText_any (v : Value) (P : List (Value × Ln)) (w : World) (hl : Sl w 5 encLv v P) (hp : ∀ x ∈ P, Sl w 2 encPc x.1 x.2.ps) (hb : ∀ x ∈ P, pcB x.2.ps) (hn : (linesT tw (P.map fun x => x.2.ps)).length ≤ 1000000) (hT : Tabs w) :
  Calls Tryz.prog 15 #[v] w fun e w' => e = .returned (.string ⟨(linesT tw (P.map fun x => x.2.ps)).toArray⟩) ∧ Below w.heap.size w w' := by
 obtain ⟨p, cap, rfl, hmN⟩ := hl.shape
 obtain ⟨N, hN⟩ : ∃ n, P.length = n := ⟨_, rfl⟩
 rw [show linesT tw (P.map fun x => x.2.ps) = linesTo tw (P.map fun x => x.2.ps) N by unfold linesT; rw [List.length_map, hN]] at hn
 rw [hN] at hmN ⊢
 unfold maxLen at hmN
 have hN' := hid hN
 go_enter Tryz.func15, Tryz.ntmps15
 clear hN
 go_wp2_with (fail)
 have hN := hN'.out
 have hb0 : (w.alloc (.cells #[.pointer none, .slice none 0 0] 68)).heap[w.heap.size]? = some (.cells #[.pointer none, .slice none 0 0] 68 (0, 0)) := World.alloc_heap_new w _
 have hbs : Lib.IsBuilderF 68 5 w.heap.size w.heap.size (Lib.byteCells (linesTo tw (P.map fun x => x.2.ps) 0)) (w.alloc (.cells #[.pointer none, .slice none 0 0] 68)) :=
  .inl ⟨Nat.le_refl _, _, hb0, World.ownsRowF_of (World.ownsRow_nil _ _ _ _), by simp [Value.ownBlock]⟩
 go_loopw [9] (fun i wr => ∃ k : Nat, k ≤ N ∧ i = .int .i64 k ∧ Lib.IsBuilderF 68 5 w.heap.size w.heap.size (Lib.byteCells (linesTo tw (P.map fun x => x.2.ps) k)) wr ∧ Below w.heap.size w wr) (fun i _ => N - (RowKit.intOf i).toNat)
 case atStart => exact ⟨0, Nat.zero_le _, rfl, hbs, (Below.refl _ _).alloc (Nat.le_refl _) _⟩
 case round =>
  obtain ⟨k, hk, rfl, hbu, hB⟩ := hrel
  have hzr := hB.size
  by_cases hkl : k < N
  ·skip
   have hkI : (k : Int) < (N : Int) := by omega
   obtain ⟨b, o, cap', he, h1, h2, h3⟩ := hl.open (by rintro rfl; simp at hN; omega)
   simp only [Value.slice.injEq] at he
   obtain ⟨rfl, -, rfl⟩ := he
   have hx : P[k]? = some P[k] := List.getElem?_eq_getElem (by rw [hN]; exact hkl)
   have hr := (Kept.of_below hB 0).range (h3 k _ hx)
   have hpx := hp _ (List.getElem_mem (show k < P.length by rw [hN]; exact hkl))
   have hbx := hb _ (List.getElem_mem (show k < P.length by rw [hN]; exact hkl))
   have hgd : (P.map fun x => x.2.ps).getD k [] = P[k].2.ps := by rw [List.getD_eq_getElem?_getD, List.getElem?_map, hx]; rfl
   have hlo : lineOut tw (P.map fun x => x.2.ps) k = if k + 1 < N ∧ brokenS tw P[k].2.ps = true then lineTo tw P[k].2.ps (P[k].2.ps.length - 1) else lineT tw P[k].2.ps ++ if k + 1 < N then [32] else [] := by
    unfold lineOut
    rw [hgd, List.length_map]
    simp only [hN]
   have hto : linesTo tw (P.map fun x => x.2.ps) (k + 1) = linesTo tw (P.map fun x => x.2.ps) k ++ lineOut tw (P.map fun x => x.2.ps) k := rfl
   have hlt := linesTo_le (tw := tw) (ls := P.map fun x => x.2.ps) (show k + 1 ≤ N by omega)
   obtain ⟨⟨pv, ⟨kd, fi, la, ov, ps⟩⟩, hXT⟩ : ∃ x, P[k] = x := ⟨_, rfl⟩
   rw [hXT] at hlo hr hpx hbx
   dsimp only [encLv] at hlo hr hpx hbx
   clear hx hgd hXT h3
   obtain ⟨q, c, rfl, hmx⟩ := hpx.shape
   unfold maxLen at hmx
   have x0 := hr 0 _ rfl
   have x1 := hr 1 _ rfl
   have x2 := hr 2 _ rfl
   have x3 := hr 3 _ rfl
   have x4 := hr 4 _ rfl
   dsimp only [Nat.add_zero] at x0
   clear hr
   rw [hlo] at hto
   rw [hto, List.length_append] at hlt
   obtain ⟨LK, hLK⟩ : ∃ x, linesTo tw (P.map fun x => x.2.ps) k = x := ⟨_, rfl⟩
   obtain ⟨LE, hLE⟩ : ∃ x, (linesTo tw (P.map fun x => x.2.ps) N).length = x := ⟨_, rfl⟩
   rw [hLE] at hlt hn
   rw [hLK] at hto hbu hlt
   replace hto := hid hto
   have hlen : (Lib.byteCells LK).length = LK.length := by simp [Lib.byteCells]
   clear hLE hlo hLK
   have hsp := hid (fun (W : World) (h : Below w.heap.size w W) => (Kept.of_below h 0).sl hpx)
   have hTb := hid (fun (W : World) (h : Below w.heap.size w W) => hT.below h)
   obtain ⟨M, hM⟩ : ∃ x, ps.length = x := ⟨_, rfl⟩
   rw [hM] at hsp hmx x4 hpx
   go_upto_region 5 with (fail)
   have g4 := World.alloc_heap_new wr (.cells #[.int .i64 kd, .bool fi, .bool la, .bool ov, .slice q M c] 44)
   have hB4 := hB.alloc hzr (.cells #[.int .i64 kd, .bool fi, .bool la, .bool ov, .slice q M c] 44)
   have hbu4 := hbu.alloc (.cells #[.int .i64 kd, .bool fi, .bool la, .bool ov, .slice q M c] 44)
   obtain ⟨n5, hn5⟩ : ∃ n, wr.heap.size = n := ⟨_, rfl⟩
   obtain ⟨W4, hW4⟩ : ∃ W : World, W = wr.alloc (.cells #[.int .i64 kd, .bool fi, .bool la, .bool ov, .slice q M c] 44) := ⟨_, rfl⟩
   rw [hn5, ← hW4] at g4
   rw [← hW4] at hB4 hbu4 ⊢
   rw [hn5] at hzr ⊢
   have y4 : W4.cell? ⟨n5, 4, none⟩ = some (.slice q M c) := cell_blk (i := 4) g4 rfl
   clear hW4 hn5 x0 x1 x2 x3 x4 hbu hB g4
   have hNw : IntKind.i64.wrap ((N : Int) - 1) = (N : Int) - 1 := by rw [IntKind.wrap_i64]; omega
   by_cases hlast : k + 1 < N
   ·have hlI : (k : Int) < (N : Int) - 1 := by omega
    have cBr := hid (broken_any (.slice q M c) ps W4 (hsp.out _ hB4) hbx (hTb.out _ hB4))
    obtain ⟨br, hbr⟩ : ∃ x, brokenS tw ps = x := ⟨_, rfl⟩
    rw [hbr] at cBr hto hlt
    go_wp2_with (fail)
    refine cBr.out.mono ?_
    rintro e w5 ⟨rfl, b5⟩
    have hB5 := hB4.trans (b5.mono hB4.size)
    have hbu5 := isb_below hbu4 b5
    clear y4 cBr b5 hB4 hbu4
    cases br with
    | true =>
     have h1M : 1 < M := by
      unfold brokenS at hbr
      rw [hM] at hbr
      simp only [Bool.and_eq_true, decide_eq_true_eq] at hbr
      exact hbr.1
     obtain ⟨n, hn1⟩ : ∃ n, M - 1 = n := ⟨_, rfl⟩
     rw [if_pos ⟨hlast, rfl⟩, hM, hn1] at hto hlt
     have hMw : IntKind.i64.wrap ((M : Int) - 1) = (n : Int) := by rw [IntKind.wrap_i64]; omega
     obtain ⟨sv, hsv, hsvs, p9, c9, rfl⟩ := slice_take (P := Tryz.prog) (enc := encPc) 42 47 2 (by kernel_rfl) infoPc2 (k := n) (by omega) hpx
     have htk : lineT tw (ps.take n) = lineTo tw ps n := lineT_take (by omega)
     have cT := hid (ltext_any (.slice p9 n c9) (ps.take n) w5 (hsvs _ (hsp.out _ hB5)) (hbx.take n) (by rw [htk]; omega) (hTb.out _ hB5))
     rw [htk] at cT
     replace hsv := hid hsv
     obtain ⟨TX, hTX⟩ : ∃ x, lineTo tw ps n = x := ⟨_, rfl⟩
     rw [hTX] at cT hto hlt
     obtain ⟨TB, hTB⟩ : ∃ x : ByteArray, (⟨TX.toArray⟩ : ByteArray) = x := ⟨_, rfl⟩
     have hTs : TB.size = TX.length := by rw [← hTB]; simp [ByteArray.size]
     have hTc : Lib.strCells TB = Lib.byteCells TX := by rw [← hTB]; rfl
     rw [hTB] at cT
     clear hTB hbr hn1 htk hTX hsvs
     replace hM := hid hM
     go_wp2_with (refine wpList_slice rfl 42 _ _ _ rfl (.slice p9 n c9) hsv.out ?_)
     refine cT.out.mono ?_
     rintro e w6 ⟨rfl, b6⟩
     have hB6 := hB5.trans (b6.mono hB5.size)
     have hbu6 := isb_below hbu5 b6
     go_wp2_with (fail)
     refine (WriteString_any w.heap.size w.heap.size _ TB w6 hbu6 (by simp only [Lib.byteCells, List.length_map] at *; omega) hB6.size).mono ?_
     rintro e w7 ⟨rfl, hb7, b7⟩
     have hB7 := hB6.trans b7
     go_wp2_with (fail)
     have hfinal : Lib.IsBuilderF 68 5 w.heap.size w.heap.size (Lib.byteCells (linesTo tw (P.map fun x => x.2.ps) (k + 1))) w7 := by
      rw [hto.out, byteCells_app, ← hTc]
      exact .inr hb7
     exact ⟨⟨k + 1, by omega, by go_num, hfinal, hB7⟩, by simp [RowKit.intOf]; omega⟩
    | false =>
     rw [if_neg (fun h => by cases h.2), if_pos hlast] at hto
     rw [if_neg (fun h => by cases h.2), if_pos hlast, List.length_append, List.length_singleton] at hlt
     have cT := hid (ltext_any (.slice q M c) ps w5 (hsp.out _ hB5) hbx (by omega) (hTb.out _ hB5))
     obtain ⟨TX, hTX⟩ : ∃ x, lineT tw ps = x := ⟨_, rfl⟩
     rw [hTX] at cT hto hlt
     obtain ⟨TB, hTB⟩ : ∃ x : ByteArray, (⟨TX.toArray⟩ : ByteArray) = x := ⟨_, rfl⟩
     have hTs : TB.size = TX.length := by rw [← hTB]; simp [ByteArray.size]
     have hTc : Lib.strCells TB = Lib.byteCells TX := by rw [← hTB]; rfl
     rw [hTB] at cT
     clear hTB hbr hTX
     replace hM := hid hM
     go_wp2_with (fail)
     refine cT.out.mono ?_
     rintro e w6 ⟨rfl, b6⟩
     have hB6 := hB5.trans (b6.mono hB5.size)
     have hbu6 := isb_below hbu5 b6
     go_wp2_with (fail)
     refine (WriteString_any w.heap.size w.heap.size _ TB w6 hbu6 (by simp only [Lib.byteCells, List.length_map] at *; omega) hB6.size).mono ?_
     rintro e w7 ⟨rfl, hb7, b7⟩
     have hB7 := hB6.trans b7
     go_wp2_with (fail)
     refine (WriteByte_any w.heap.size w.heap.size _ 32 w7 (.inr hb7) (by rw [hTc]; simp only [List.length_append, Lib.byteCells, List.length_map] at *; omega) hB7.size).mono ?_
     rintro e w8 ⟨rfl, hb8, b8⟩
     have hB8 := hB7.trans b8
     go_wp2_with (fail)
     have hfinal : Lib.IsBuilderF 68 5 w.heap.size w.heap.size (Lib.byteCells (linesTo tw (P.map fun x => x.2.ps) (k + 1))) w8 := by
      rw [hto.out, byteCells_app, byteCells_app, ← hTc, ← List.append_assoc]
      exact .inr hb8
     exact ⟨⟨k + 1, by omega, by go_num, hfinal, hB8⟩, by simp [RowKit.intOf]; omega⟩
   ·have hlI : ¬ (k : Int) < (N : Int) - 1 := by omega
    rw [if_neg (fun h => hlast h.1), if_neg hlast, List.append_nil] at hto hlt
    have cT := hid (ltext_any (.slice q M c) ps W4 (hsp.out _ hB4) hbx (by omega) (hTb.out _ hB4))
    obtain ⟨TX, hTX⟩ : ∃ x, lineT tw ps = x := ⟨_, rfl⟩
    rw [hTX] at cT hto hlt
    obtain ⟨TB, hTB⟩ : ∃ x : ByteArray, (⟨TX.toArray⟩ : ByteArray) = x := ⟨_, rfl⟩
    have hTs : TB.size = TX.length := by rw [← hTB]; simp [ByteArray.size]
    have hTc : Lib.strCells TB = Lib.byteCells TX := by rw [← hTB]; rfl
    rw [hTB] at cT
    clear hTB hTX
    replace hM := hid hM
    go_wp2_with (fail)
    refine cT.out.mono ?_
    rintro e w6 ⟨rfl, b6⟩
    have hB6 := hB4.trans (b6.mono hB4.size)
    have hbu6 := isb_below hbu4 b6
    go_wp2_with (fail)
    refine (WriteString_any w.heap.size w.heap.size _ TB w6 hbu6 (by simp only [Lib.byteCells, List.length_map] at *; omega) hB6.size).mono ?_
    rintro e w7 ⟨rfl, hb7, b7⟩
    have hB7 := hB6.trans b7
    go_wp2_with (fail)
    have hfinal : Lib.IsBuilderF 68 5 w.heap.size w.heap.size (Lib.byteCells (linesTo tw (P.map fun x => x.2.ps) (k + 1))) w7 := by
     rw [hto.out, byteCells_app, ← hTc]
     exact .inr hb7
    exact ⟨⟨k + 1, by omega, by go_num, hfinal, hB7⟩, by simp [RowKit.intOf]; omega⟩
  ·skip
   obtain rfl : k = N := by omega
   have hst := Tryz.Builder_String_any_k w.heap.size w.heap.size (linesTo tw (P.map fun x => x.2.ps) k) wr hbu hB.size
   obtain ⟨S, hS⟩ : ∃ S : ByteArray, (⟨(linesTo tw (P.map fun x => x.2.ps) k).toArray⟩ : ByteArray) = S := ⟨_, rfl⟩
   rw [hS] at hst
   have hfin : linesT tw (P.map fun x => x.2.ps) = linesTo tw (P.map fun x => x.2.ps) k := by unfold linesT; rw [List.length_map, hN]
   replace hS := hid hS
   replace hfin := hid hfin
   clear hbu hl
   go_wp2_with (fail)
   refine hst.mono ?_
   rintro e w' ⟨rfl, -, hbel, -⟩
   go_wp2
   go_ret
   exact ⟨by rw [hfin.out, ← hS.out]; rfl, hB.trans hbel⟩
end Go.Proofs.YtempicociampoaaGreatDoor
namespace Go.Proofs.YtempicociampoaaGreatDoor
open Go.RowKit Go.Shelf
attribute [local go_sem] Oper.semAt_some

theorem PcAt.off {W W' : World} {v : Value} {l : List (Int × ByteArray)} (h : PcAt W v l) (hb : ∀ (k : Nat) (cs : Array Value) (fr : Nat × Nat), W.heap[k]? = some (.cells cs 47 fr) → W'.heap[k]? = some (.cells cs 47 fr)) : PcAt W' v l := by
 refine ⟨?_, fun a n m e => by obtain ⟨cs, fr, hh⟩ := h.2 a n m e; exact ⟨cs, fr, hb _ _ _ hh⟩⟩
 have h2 := h.2
 rcases h.1 with ⟨rfl, rfl⟩ | ⟨a, cap, rfl, h3, h4, h5, h6⟩
 ·exact .inl ⟨rfl, rfl⟩
 ·obtain ⟨cs, fr, hh⟩ := h2 a _ _ rfl
  refine .inr ⟨a, cap, rfl, h3, h4, h5, fun i x hx j u hj => ?_⟩
  have h9 := h6 i x hx j u hj
  unfold World.cell? at h9 ⊢
  dsimp only at h9 ⊢
  rw [hb _ _ _ hh]
  rw [hh] at h9
  exact h9
theorem Tryz.infoLn : (Tryz.prog.info? 44).map (fun i => (i.zero, i.size, i.bytes)) = some (some (.agg #[.int .i64 0, .bool false, .bool false, .bool false, .slice none 0 0]), 5, 40) := by kernel_rfl
abbrev Sv := Option Addr × Nat × Nat
def svV (s : Sv) : Value := .slice s.1 s.2.1 s.2.2
def encLs (x : Sv × Ln) : List Value := [.int .i64 x.2.kind, .bool x.2.first, .bool x.2.last, .bool x.2.over, .slice x.1.1 x.1.2.1 x.1.2.2]
def lnEnc (x : Sv × Ln) : Array Value := #[.agg (encLs x).toArray]
theorem sl_lv {W : World} {v : Value} {P : List (Sv × Ln)} (h : Sl W 5 encLs v P) : Sl W 5 encLv v (P.map fun x => (svV x.1, x.2)) := by
 rcases h with ⟨rfl, rfl⟩ | ⟨a, cap, rfl, h3, h4, h5, h6⟩
 ·exact .inl ⟨rfl, rfl⟩
 ·refine .inr ⟨a, cap, by rw [List.length_map], by rw [List.length_map]; exact h3, h4, fun hne => h5 (by rintro rfl; exact hne rfl), fun i x hx => ?_⟩
  rw [List.getElem?_map] at hx
  obtain ⟨y, hy, rfl⟩ := Option.map_eq_some_iff.1 hx
  exact h6 i y hy
/-- lines as they lie -/
def LnsAt (W : World) (v : Value) (L : List Ln) : Prop := ∃ P : List (Value × Ln), Sl W 5 encLv v P ∧ P.map (·.2) = L ∧ ∀ y ∈ P, PcAt W y.1 y.2.ps
def LnAdm (L : List Ln) (pre : List (Sv × Ln)) (x : Sv × Ln) (W : World) : Prop := (pre ++ [x]).map (·.2) <+: L ∧ PcAt W (svV x.1) x.2.ps
theorem LnAdm.st {B : Nat} {L : List Ln} {pre : List (Sv × Ln)} {x : Sv × Ln} : St B (LnAdm L pre x) := fun _ _ hk h => ⟨h.1, h.2.kept hk⟩
set_option maxRecDepth 100000 in
set_option maxHeartbeats 2000000 in
theorem AppendSeqL_any (w : World) (gf : Nat) (lb : Array Value) (R : World → Prop) (L : List Ln) (hL : L.length ≤ 100000)
  (eg : ∀ args w, (callFunc gf args).run Tryz.prog w = .ok (.enter gf args) w) (hR : ∀ B, St B R) (hRB : ∀ W, Below w.heap.size w W → R W)
  (hseq : SeqM Tryz.prog gf lb lnEnc R (LnAdm L) (fun xs _ => xs.map (fun x => x.2) = L) (fun _ _ => True)) :
  Calls Tryz.prog 46 #[.slice none 0 0, .func (.func gf) #[] lb] w fun e w' => ∃ v, e = .returned v ∧ LnsAt w' v L ∧ Below w.heap.size w w' := by
 obtain ⟨i0, hi, hz0, hz1, hz2⟩ := info_parts Tryz.infoLn
 refine calls_of_marks Tryz.func46 rfl ?_
 simp only [Tryz.ntmps46, List.size_toArray, List.length_cons, List.length_nil, Nat.reduceAdd, Nat.reduceSub, Array.replicate_succ, Array.replicate_zero, List.push_toArray, List.append_toArray, List.nil_append, List.cons_append]
 gi_wp2_with (fail)
 have bO := Boxed.new w 27 (.slice none 0 0)
 have hB0 : Below w.heap.size w (w.alloc (.cells #[.slice none 0 0] 27)) := (Below.refl _ w).alloc (Nat.le_refl _) _
 refine range_boxM rfl eg hseq (fun _ => rfl)
  (fun M pre W => (∃ v, Boxed W w.heap.size 27 v ∧ W.ownsRow M 44 5 v pre.length (pre.flatMap encLs)) ∧ (∀ y ∈ pre, PcAt W (svV y.1) y.2.ps) ∧ M ≤ W.heap.size ∧ w.heap.size ≤ M ∧ w.heap.size + 1 ≤ W.heap.size ∧ Below w.heap.size w W)
  (fun W => Boxed W w.heap.size 27 (.slice none 0 0) ∧ w.heap.size + 1 ≤ W.heap.size ∧ Below w.heap.size w W)
  (fun _ _ _ => False) ?hI ?hI0 ?hI1 (fun _ _ _ _ _ h => h) hR (fun _ _ => LnAdm.st) (fun _ => St.pure _) (fun _ => St.pure _) ?hsz ?h0 (hRB _ hB0)
  ?mk (fun x => (encLs x).toArray) 44 ?assign ?body ?done ?stop
 case assign =>
  intro l x j W K hj hK
  dsimp only [lnEnc, encLs] at hK ⊢
  gi_wp2
  exact hK
 case hI =>
  rintro M s A C hk ⟨⟨v, h1, h2⟩, h9, h5, h6, h3, h4⟩
  exact ⟨⟨v, hk.same _ _ h1 (.inl rfl), hk.owns h2⟩, fun y hy => (h9 y hy).kept hk, Nat.le_trans h5 hk.size, h6, Nat.le_trans h3 hk.size, hk.below (by simp) (Nat.le_refl _) h4⟩
 case hI0 =>
  rintro A C hk ⟨h1, h3, h4⟩
  exact ⟨hk.same _ _ h1 (.inl rfl), Nat.le_trans h3 hk.size, hk.below (by simp) (Nat.le_refl _) h4⟩
 case hI1 =>
  rintro M W ⟨h1, h3, h4⟩ hM0 hM
  exact ⟨⟨_, h1, World.ownsRow_nil _ _ _ _⟩, (fun y hy => absurd hy List.not_mem_nil), hM, by simp at hM0; omega, h3, h4⟩
 case hsz => exact fun _ _ _ h => by have := h.2.2.2.2.1; simp; omega
 case h0 => exact ⟨bO, by simp, hB0⟩
 case body =>
  rintro l M pre x j W hl2 hM1 _ ⟨⟨v, hv, hrow⟩, hpc, hMs, -, hsz, hB⟩ hR' hadm hj hx
  have hpl : pre.length + 1 ≤ 100000 := by
   obtain ⟨⟨t, ht⟩, -⟩ := hadm
   have := congrArg List.length ht
   simp at this; omega
  have hMw : w.heap.size + 1 ≤ M := by simpa using hM1
  have hc := hv.cell
  dsimp only [encLs] at hx ⊢
  have x1 := cell_blk (i := 0) hx rfl
  have x2 := cell_blk (i := 1) hx rfl
  have x3 := cell_blk (i := 2) hx rfl
  have x4 := cell_blk (i := 3) hx rfl
  have x5 := cell_blk (i := 4) hx rfl
  obtain ⟨-, hpx⟩ := hadm
  obtain ⟨⟨q, m, c⟩, ⟨kd, fi, la, ov, ps⟩⟩ := x
  dsimp only at hx x1 x2 x3 x4 x5 hpx ⊢
  clear hM1
  gi_wp2_with (gi_at_builtin; go_must (refine wpListIn_append_own _ rfl _ _ 27 rfl M 44 i0 (.agg #[.int .i64 0, .bool false, .bool false, .bool false, .slice none 0 0]) 5 40 Tryz.underlying27 hi hz0 hz1 hz2 rfl (by decide) _ _ _ rfl (hrow.alloc _) ⟨W.heap.size, 0, none⟩ 1 1 [.int .i64 kd, .bool fi, .bool la, .bool ov, .slice q m c] rfl rfl ?_ (by simp [Value.oneCell']) (by unfold maxLen; omega) (by omega) (by simp; omega) ?_; rotate_left; intro v' w1 hown' hgrow _; obtain ⟨g', cap', rfl⟩ := ownsRow_succ hown'; obtain ⟨hv1, hv2, hr2, hk2, hb2⟩ := hv.appended (by decide) (owns_downM (b' := w.heap.size) (by omega) hrow) hB.size (Nat.le_refl _) (owns_downM (b' := w.heap.size) (by omega) hown') hgrow; have hkx : KeepsM M (w.heap.size + 1) W w1 := (KeepsM.alloc _ _ _ _).trans (KeepsM.grown _ (hrow.alloc _) hgrow); have hc1 := hv1.cell; have hf1 := hv1.frozen))
  ·have hB2 := hB.trans hb2
   have hg2 : M ≤ (w1.setCell ⟨w.heap.size, 0, none⟩ (.slice (some ⟨g', 0, none⟩) (pre.length + 1) cap')).heap.size := Nat.le_trans hMs hb2.size
   refine ⟨(hkx.trans (KeepsM.setCell _ _ hv1 (.inl (by omega)) _)).mono (by simp), hRB _ hB2, ⟨_, hv2, ?_⟩, ?_, hg2, by omega, Nat.le_trans hsz hb2.size, hB2⟩
   rotate_left
   ·have hk9 : ∀ (k : Nat) (cs : Array Value) (fr : Nat × Nat), W.heap[k]? = some (.cells cs 47 fr) → (w1.setCell ⟨w.heap.size, 0, none⟩ (.slice (some ⟨g', 0, none⟩) (pre.length + 1) cap')).heap[k]? = some (.cells cs 47 fr) := fun k cs fr hk => by
     refine (setCell_off (by rintro rfl; rw [hv] at hk; cases hk)).trans ((hgrow.block k (by have := (Array.getElem?_eq_some_iff.1 hk).1; simp; omega) (fun e => ?_)).trans ((Kept.alloc 0 W _).same _ _ hk (.inl rfl)))
     replace e : some k = v.ownBlock := e
     rcases hrow.2 with ⟨rfl, _⟩ | ⟨g, cap, cur, rfl, hg, hh, _⟩
     ·simp [Value.ownBlock] at e
     ·simp [Value.ownBlock] at e
      subst e
      rw [hk] at hh; cases hh
    intro y hy
    rcases List.mem_append.1 hy with hy | hy
    ·exact (hpc y hy).off hk9
    ·obtain rfl := List.mem_singleton.1 hy
     exact hpx.off hk9
   have hne : w.heap.size < M := by omega
   obtain ⟨o1, o2⟩ := hown'
   refine ⟨by simpa [encLs] using hr2.1, ?_⟩
   rcases o2 with ⟨e0, e1⟩ | ⟨g, cap, cur, e0, hg, hh, r⟩
   ·cases e0
   ·cases e0
    refine .inr ⟨g', cap', cur, by simp, hg, (setCell_off (by omega)).trans hh, ?_⟩
    simpa [encLs] using r
  ·exact cells_new W _ _
 case done =>
  rintro D M ys W hD rfl ⟨⟨v, hv, hrow⟩, hpc, hMs, hMb, hsz, hB⟩ hR' hK
  have hc := hv.cell
  have hsl := sl_of_owns (enc := encLs) (fun _ _ => rfl) hrow
  gi_wp2
  refine leave1 hK (fun _ _ => results_tmp rfl _ _ _) ⟨_, rfl, ?_, ?_⟩
  ·refine ⟨_, sl_lv ((Kept.putObj (B := 0) _ (Nat.zero_le _) hK rfl).sl hsl), by rw [List.map_map]; rfl, fun y hy => ?_⟩
   obtain ⟨z, hz, rfl⟩ := List.mem_map.1 hy
   exact (hpc z hz).kept (Kept.putObj (B := 0) _ (Nat.zero_le _) hK rfl)
  ·exact (Kept.putObj (B := w.heap.size) (.deferred none) (by simp at hD; omega) hK rfl).below (Nat.le_refl _) (Nat.le_refl _) hB
 case stop =>
  rintro D c pre W _ _ h _
  exact h.elim

set_option maxRecDepth 100000 in
set_option maxHeartbeats 2000000 in
theorem CollectL_any (w : World) (gf : Nat) (lb : Array Value) (R : World → Prop) (L : List Ln) (hL : L.length ≤ 100000)
  (eg : ∀ args w, (callFunc gf args).run Tryz.prog w = .ok (.enter gf args) w) (hR : ∀ B, St B R) (hRB : ∀ W, Below w.heap.size w W → R W)
  (hseq : SeqM Tryz.prog gf lb lnEnc R (LnAdm L) (fun xs _ => xs.map (fun x => x.2) = L) (fun _ _ => True)) :
  Calls Tryz.prog 25 #[.func (.func gf) #[] lb] w fun e w' => ∃ v, e = .returned v ∧ LnsAt w' v L ∧ Below w.heap.size w w' := by
 have hc := hid (AppendSeqL_any w gf lb R L hL eg hR hRB hseq)
 clear hseq eg
 go_enter Tryz.func25, Tryz.ntmps25
 go_wp2_with (fail)
 refine hc.out.mono ?_
 rintro e w' ⟨v, rfl, h1, h3⟩
 go_wp2
 go_ret
 exact ⟨_, rfl, h1, h3⟩
end Go.Proofs.YtempicociampoaaGreatDoor
