/- The walks of setting.Line and Wide. -/
import Derived.Test.YtempicociampoaaGreatDoorSetH
import Derived.Test.YtempicociampoaaGreatDoorJ10
import Derived.Deep.DeepCutAuto
import Derived.Deep.CutBlock
import Derived.Deep.RegionHeld3
namespace Go.Proofs.YtempicociampoaaGreatDoor
open Go.RowKit Go.Shelf
attribute [local go_sem] Oper.semAt_some

theorem Below.drew {B : Nat} {a w : World} (h : Below B a w) : Below B a w.drew := ⟨h.os, h.tape, h.output, h.size, h.block⟩
theorem pcs_length (d : Int) (s : Sm) : ∀ (l : List It) (a : Sm), (pcs d s a l).length ≤ l.length := by
 intro l
 induction l with
 | nil => intro a; simp [pcs]
 | cons x l ih => intro a; simp only [pcs]; split <;> (have := ih (a.step x); simp; omega)
theorem allPcs_len (d : Int) (s : Sm) (l : List It) (f t : Nat) (h : l.length ≤ 5000) : (allPcs d s l f t).length ≤ 100000 := by
 have h1 := pcs_length d s (mid l f t) ⟨0, 0, 0⟩
 have h2 := mid_len l f t
 unfold allPcs pcsOf
 rw [List.length_append]
 split <;> simp <;> omega

set_option maxRecDepth 100000 in
set_option maxHeartbeats 2000000 in
theorem SLine_any (v : Value) (l : List It) (n t wd : Int) (last : Bool) (w : World) (hl : Sl w 6 encIt v l) (hle : l.length ≤ 5000) (hn : w64 n) (ht : w64 t) (hwd : w64 wd) (hok : ∀ x ∈ l, x.ok) :
  Calls Tryz.prog 49 #[v, .int .i64 n, .int .i64 t, .int .i64 wd, .bool last] w fun e w' => ∃ u, e = .returned u ∧ PcAt w' u (setL l n t wd last) ∧ Below w.heap.size w w' := by
 obtain ⟨p, cap, rfl, hmx⟩ := hl.shape
 clear hmx
 have hup := upto_le t l.length
 have htc := upto_cases t l.length
 have HF := hid (fun w' (h : Kept 0 w w') => First_any (.slice p l.length cap) l n w' (h.sl hl) hle hn)
 have HM := hid (MLine_any (.slice p l.length cap) l n (upto t l.length) w hl hle hn (by constructor <;> omega) hok)
 have HP := hid (fun w => Plain_any wd w hwd)
 have hdef : setL l n t wd last = if firstL l n < upto t l.length then allPcs (needOf wd last (lineSm l (firstL l n) (upto t l.length))) (lineSm l (firstL l n) (upto t l.length)) l (firstL l n) (upto t l.length) else [] := rfl
 have Hd := hid hdef
 clear hdef
 have Hok := hid hok
 have Hl := hid hl
 clear hok hl
 have hbd := lineSm_bd l (firstL l n) (upto t l.length)
 have hbd1 : (lineSm l (firstL l n) (upto t l.length)).bd 5001 := by obtain ⟨⟨a1, a2⟩, ⟨a3, a4⟩, ⟨a5, a6⟩⟩ := hbd; exact ⟨⟨a1, by omega⟩, ⟨a3, by omega⟩, ⟨a5, by omega⟩⟩
 clear hbd
 have huu : upto (upto t l.length : Int) l.length = upto t l.length := by unfold upto; omega
 rw [huu] at HM
 clear huu
 have hseq : ∀ (b : Nat) (d : Int), firstL l n ≤ upto t l.length → -60000000 ≤ d → d ≤ 10000 → _ := fun b d h1 h2 h3 => pieces1_seq b (.slice p l.length cap) (firstL l n) (upto t l.length) d (lineSm l (firstL l n) (upto t l.length)) l hle h1 hup Hok.out hbd1 h2 h3
 replace hseq := hid hseq
 have hlen : ∀ d, (allPcs d (lineSm l (firstL l n) (upto t l.length)) l (firstL l n) (upto t l.length)).length ≤ 100000 := fun d => allPcs_len d _ l _ _ hle
 replace hlen := hid hlen
 generalize hf : firstL l n = f at *
 generalize hS : lineSm l f (upto t l.length) = S at *
 generalize upto t l.length = T at *
 obtain ⟨⟨s1, s2⟩, ⟨s3, s4⟩, ⟨s5, s6⟩⟩ := hbd1
 have hp := plain_bd wd
 rcases htc with ⟨c1, rfl⟩ | ⟨rfl, c1, rfl⟩ | ⟨rfl, c1, rfl⟩ | ⟨c0, c1, rfl⟩ | ⟨c0, c1, c2⟩ | ⟨rfl, c0, c2⟩ | ⟨c1, c0, c2⟩
 iterate 4
  ·go_enter Tryz.func49, Tryz.ntmps49
   go_wp2_with (fail)
   refine (HF.out _ (Kept.refl _ _)).mono ?_
   rintro e w' ⟨rfl, rfl⟩
   go_wp2
   go_ret
   exact ⟨_, rfl, by rw [Hd.out, if_neg (by omega)]; exact ⟨.inl ⟨rfl, rfl⟩, fun a n m e => by cases e⟩, Below.refl _ _⟩
 all_goals
  first | (obtain rfl : t = (T : Int) := c2.symm) | (obtain rfl : T = l.length := by omega)
  go_enter Tryz.func49, Tryz.ntmps49
  go_wp2_with (fail)
  refine (HF.out _ (Kept.refl _ _)).mono ?_
  rintro e w' ⟨rfl, rfl⟩
 ·by_cases hlt : f < T
  ·go_wp2_with (fail)
   refine HM.out.mono ?_
   rintro e w1 ⟨rfl, B1⟩
   unfold sumC
   go_upto_region 5 with (fail)
   have hB2 := B1.alloc B1.size (.cells #[.int .i64 S.w, .int .i64 S.y, .int .i64 S.z] 126)
   have hb := World.alloc_heap_new w1 (.cells #[.int .i64 S.w, .int .i64 S.y, .int .i64 S.z] 126)
   generalize w1.heap.size = b at *
   generalize w1.alloc _ = w2 at *
   clear HM B1
   have x0 : w2.cell? ⟨b, 0, none⟩ = some (.int .i64 S.w) := cell_blk hb rfl
   have r1 : IntKind.i64.wrap (plain wd - S.w) = plain wd - S.w := IntWalk.i64_in _ (by omega)
   go_quiet (first | (go_at_call 77; exact Calls.quiet_of_same ((HP.out _).mono fun e w' ⟨h1, h2⟩ => ⟨h1, h2.symm⟩)))
   clear r1
   have hb3 : (w2.drewN nq).heap[b]? = some (.cells #[.int .i64 S.w, .int .i64 S.y, .int .i64 S.z] 126 (0, 0)) := hb
   have hB3 := hB2.drewN nq
   clear x0 hb hB2
   generalize w2.drewN nq = w3 at *
   have x0 : w3.cell? ⟨b, 0, none⟩ = some (.int .i64 S.w) := cell_blk hb3 rfl
   have x1 : w3.cell? ⟨b, 1, none⟩ = some (.int .i64 S.y) := cell_blk hb3 rfl
   have x2 : w3.cell? ⟨b, 2, none⟩ = some (.int .i64 S.z) := cell_blk hb3 rfl
   obtain ⟨d, hd⟩ : ∃ d, needOf wd last S = d := ⟨_, rfl⟩
   rw [hd] at Hd
   have hdb : -60000000 ≤ d ∧ d ≤ 10000 := by rw [← hd]; unfold needOf; split <;> omega
   have hd0 : last = false → d = plain wd - S.w := fun h => by rw [← hd, h]; rfl
   have hd1 : last = true → plain wd - S.w ≤ 0 → d = plain wd - S.w := fun h h2 => by rw [← hd, h]; unfold needOf; simp only [if_true]; omega
   have hd2 : last = true → 0 ≤ plain wd - S.w → d = 0 := fun h h2 => by rw [← hd, h]; unfold needOf; simp only [if_true]; omega
   clear hd
   go_upto_if 32 with (fail)
   go_cut [12] (fun v wx => v = .int .i64 d ∧ wx = w3)
   case first =>
    cases last
    ·have e := hd0 rfl
     clear hd0 hd1 hd2
     subst e
     go_wp2; go_meet; exact ⟨rfl, rfl⟩
    ·rcases (by omega : plain wd - S.w < 0 ∨ plain wd - S.w = 0 ∨ 0 < plain wd - S.w) with h | h | h
     ·have e := hd1 rfl (by omega)
      clear hd0 hd1 hd2
      subst e
      go_wp2; go_meet; exact ⟨rfl, rfl⟩
     ·have e := hd2 rfl (by omega)
      clear hd0 hd1 hd2
      subst e
      rw [h]
      go_wp2; all_goals (go_meet; exact ⟨rfl, rfl⟩)
     ·have e := hd2 rfl (by omega)
      clear hd0 hd1 hd2
      subst e
      go_wp2; go_meet; exact ⟨rfl, rfl⟩
   case rest =>
    obtain ⟨rfl, rfl⟩ := hcut
    clear hd0 hd1 hd2
    have hF3 := hid (HF.out wc.drew ((Kept.of_below hB3 0).trans (Kept.drew 0 wc)))
    have hlp : Below wc.heap.size wc.drew wc.drew := Below.refl _ _
    have hCol : ∀ w4, w4 = wc.drew.alloc (.cells (lineC (.slice p l.length cap) f T d S) 132) → Calls Tryz.prog 78 #[.func (.func 105) #[] #[.pointer (some ⟨wc.drew.heap.size, 0, none⟩)]] w4
      fun e w' => ∃ u, e = .returned u ∧ PcAt w' u (allPcs d S l f T) ∧ Below w.heap.size w w' := by
     rintro w4 rfl
     have hb4 := World.alloc_heap_new wc.drew (.cells (lineC (.slice p l.length cap) f T d S) 132)
     have hB4 := (Below.drew hB3).alloc hB3.size (.cells (lineC (.slice p l.length cap) f T d S) 132)
     refine (Collect_any _ 105 _ ownPi (by decide) (by decide) (PiR wc.drew.heap.size (.slice p l.length cap) f T d S l) (allPcs d S l f T) (hlen.out d)
      (enters_of Tryz.func105 (by kernel_rfl) rfl) (fun B => PiR.st B) (fun W hW => ⟨(hW.block _ (by simp)).trans hb4, (Kept.of_below (hB4.trans (hW.mono hB4.size)) 0).sl Hl.out⟩) (hseq.out _ d (by omega) hdb.1 hdb.2)).mono ?_
     rintro e w' ⟨u, rfl, h1, h2⟩
     exact ⟨u, rfl, h1, hB4.trans (h2.mono hB4.size)⟩
    have hPie := pieces_any (.slice p l.length cap) f T d S wc.drew p l.length cap rfl
    unfold lineC at hCol hPie
    replace hCol := hid hCol
    replace hPie := hid hPie
    have y0 : wc.cell? ⟨b, 0, none⟩ = some (.int .i64 S.w) := cell_blk hb3 rfl
    have y1 : wc.cell? ⟨b, 1, none⟩ = some (.int .i64 S.y) := cell_blk hb3 rfl
    have y2 : wc.cell? ⟨b, 2, none⟩ = some (.int .i64 S.z) := cell_blk hb3 rfl
    clear hseq hlen HF HP hlp
    go_wp2
    go_region_with (first
     | (go_at_call 66; refine hF3.out.mono ?_; rintro e w' ⟨rfl, rfl⟩)
     | (go_at_call 79; refine hPie.out.mono ?_; rintro e w' ⟨rfl, rfl⟩)
     | (go_at_call 78; refine (hCol.out _ rfl).mono ?_; rintro e w' ⟨u, rfl, hsu, hBu⟩))
    all_goals
     go_wp2
     go_ret
     exact ⟨_, rfl, by rw [Hd.out, if_pos hlt]; exact hsu, hBu⟩
  ·go_wp2
   go_ret
   exact ⟨_, rfl, by rw [Hd.out, if_neg hlt]; exact ⟨.inl ⟨rfl, rfl⟩, fun a n m e => by cases e⟩, Below.refl _ _⟩
 ·by_cases hlt : f < l.length
  ·go_wp2_with (fail)
   refine HM.out.mono ?_
   rintro e w1 ⟨rfl, B1⟩
   unfold sumC
   go_upto_region 5 with (fail)
   have hB2 := B1.alloc B1.size (.cells #[.int .i64 S.w, .int .i64 S.y, .int .i64 S.z] 126)
   have hb := World.alloc_heap_new w1 (.cells #[.int .i64 S.w, .int .i64 S.y, .int .i64 S.z] 126)
   generalize w1.heap.size = b at *
   generalize w1.alloc _ = w2 at *
   clear HM B1
   have x0 : w2.cell? ⟨b, 0, none⟩ = some (.int .i64 S.w) := cell_blk hb rfl
   have r1 : IntKind.i64.wrap (plain wd - S.w) = plain wd - S.w := IntWalk.i64_in _ (by omega)
   go_quiet (first | (go_at_call 77; exact Calls.quiet_of_same ((HP.out _).mono fun e w' ⟨h1, h2⟩ => ⟨h1, h2.symm⟩)))
   clear r1
   have hb3 : (w2.drewN nq).heap[b]? = some (.cells #[.int .i64 S.w, .int .i64 S.y, .int .i64 S.z] 126 (0, 0)) := hb
   have hB3 := hB2.drewN nq
   clear x0 hb hB2
   generalize w2.drewN nq = w3 at *
   have x0 : w3.cell? ⟨b, 0, none⟩ = some (.int .i64 S.w) := cell_blk hb3 rfl
   have x1 : w3.cell? ⟨b, 1, none⟩ = some (.int .i64 S.y) := cell_blk hb3 rfl
   have x2 : w3.cell? ⟨b, 2, none⟩ = some (.int .i64 S.z) := cell_blk hb3 rfl
   obtain ⟨d, hd⟩ : ∃ d, needOf wd last S = d := ⟨_, rfl⟩
   rw [hd] at Hd
   have hdb : -60000000 ≤ d ∧ d ≤ 10000 := by rw [← hd]; unfold needOf; split <;> omega
   have hd0 : last = false → d = plain wd - S.w := fun h => by rw [← hd, h]; rfl
   have hd1 : last = true → plain wd - S.w ≤ 0 → d = plain wd - S.w := fun h h2 => by rw [← hd, h]; unfold needOf; simp only [if_true]; omega
   have hd2 : last = true → 0 ≤ plain wd - S.w → d = 0 := fun h h2 => by rw [← hd, h]; unfold needOf; simp only [if_true]; omega
   clear hd
   go_upto_if 32 with (fail)
   go_cut [12] (fun v wx => v = .int .i64 d ∧ wx = w3)
   case first =>
    cases last
    ·have e := hd0 rfl
     clear hd0 hd1 hd2
     subst e
     go_wp2; go_meet; exact ⟨rfl, rfl⟩
    ·rcases (by omega : plain wd - S.w < 0 ∨ plain wd - S.w = 0 ∨ 0 < plain wd - S.w) with h | h | h
     ·have e := hd1 rfl (by omega)
      clear hd0 hd1 hd2
      subst e
      go_wp2; go_meet; exact ⟨rfl, rfl⟩
     ·have e := hd2 rfl (by omega)
      clear hd0 hd1 hd2
      subst e
      rw [h]
      go_wp2; all_goals (go_meet; exact ⟨rfl, rfl⟩)
     ·have e := hd2 rfl (by omega)
      clear hd0 hd1 hd2
      subst e
      go_wp2; go_meet; exact ⟨rfl, rfl⟩
   case rest =>
    obtain ⟨rfl, rfl⟩ := hcut
    clear hd0 hd1 hd2
    have hF3 := hid (HF.out wc.drew ((Kept.of_below hB3 0).trans (Kept.drew 0 wc)))
    have hlp : Below wc.heap.size wc.drew wc.drew := Below.refl _ _
    have hCol : ∀ w4, w4 = wc.drew.alloc (.cells (lineC (.slice p l.length cap) f l.length d S) 132) → Calls Tryz.prog 78 #[.func (.func 105) #[] #[.pointer (some ⟨wc.drew.heap.size, 0, none⟩)]] w4
      fun e w' => ∃ u, e = .returned u ∧ PcAt w' u (allPcs d S l f l.length) ∧ Below w.heap.size w w' := by
     rintro w4 rfl
     have hb4 := World.alloc_heap_new wc.drew (.cells (lineC (.slice p l.length cap) f l.length d S) 132)
     have hB4 := (Below.drew hB3).alloc hB3.size (.cells (lineC (.slice p l.length cap) f l.length d S) 132)
     refine (Collect_any _ 105 _ ownPi (by decide) (by decide) (PiR wc.drew.heap.size (.slice p l.length cap) f l.length d S l) (allPcs d S l f l.length) (hlen.out d)
      (enters_of Tryz.func105 (by kernel_rfl) rfl) (fun B => PiR.st B) (fun W hW => ⟨(hW.block _ (by simp)).trans hb4, (Kept.of_below (hB4.trans (hW.mono hB4.size)) 0).sl Hl.out⟩) (hseq.out _ d (by omega) hdb.1 hdb.2)).mono ?_
     rintro e w' ⟨u, rfl, h1, h2⟩
     exact ⟨u, rfl, h1, hB4.trans (h2.mono hB4.size)⟩
    have hPie := pieces_any (.slice p l.length cap) f l.length d S wc.drew p l.length cap rfl
    unfold lineC at hCol hPie
    replace hCol := hid hCol
    replace hPie := hid hPie
    have y0 : wc.cell? ⟨b, 0, none⟩ = some (.int .i64 S.w) := cell_blk hb3 rfl
    have y1 : wc.cell? ⟨b, 1, none⟩ = some (.int .i64 S.y) := cell_blk hb3 rfl
    have y2 : wc.cell? ⟨b, 2, none⟩ = some (.int .i64 S.z) := cell_blk hb3 rfl
    clear hseq hlen HF HP hlp
    go_wp2
    go_region_with (first
     | (go_at_call 66; refine hF3.out.mono ?_; rintro e w' ⟨rfl, rfl⟩)
     | (go_at_call 79; refine hPie.out.mono ?_; rintro e w' ⟨rfl, rfl⟩)
     | (go_at_call 78; refine (hCol.out _ rfl).mono ?_; rintro e w' ⟨u, rfl, hsu, hBu⟩))
    all_goals
     go_wp2
     go_ret
     exact ⟨_, rfl, by rw [Hd.out, if_pos hlt]; exact hsu, hBu⟩
  ·go_wp2
   go_ret
   exact ⟨_, rfl, by rw [Hd.out, if_neg hlt]; exact ⟨.inl ⟨rfl, rfl⟩, fun a n m e => by cases e⟩, Below.refl _ _⟩
 ·by_cases hlt : f < l.length
  ·go_wp2_with (fail)
   refine HM.out.mono ?_
   rintro e w1 ⟨rfl, B1⟩
   unfold sumC
   go_upto_region 5 with (fail)
   have hB2 := B1.alloc B1.size (.cells #[.int .i64 S.w, .int .i64 S.y, .int .i64 S.z] 126)
   have hb := World.alloc_heap_new w1 (.cells #[.int .i64 S.w, .int .i64 S.y, .int .i64 S.z] 126)
   generalize w1.heap.size = b at *
   generalize w1.alloc _ = w2 at *
   clear HM B1
   have x0 : w2.cell? ⟨b, 0, none⟩ = some (.int .i64 S.w) := cell_blk hb rfl
   have r1 : IntKind.i64.wrap (plain wd - S.w) = plain wd - S.w := IntWalk.i64_in _ (by omega)
   go_quiet (first | (go_at_call 77; exact Calls.quiet_of_same ((HP.out _).mono fun e w' ⟨h1, h2⟩ => ⟨h1, h2.symm⟩)))
   clear r1
   have hb3 : (w2.drewN nq).heap[b]? = some (.cells #[.int .i64 S.w, .int .i64 S.y, .int .i64 S.z] 126 (0, 0)) := hb
   have hB3 := hB2.drewN nq
   clear x0 hb hB2
   generalize w2.drewN nq = w3 at *
   have x0 : w3.cell? ⟨b, 0, none⟩ = some (.int .i64 S.w) := cell_blk hb3 rfl
   have x1 : w3.cell? ⟨b, 1, none⟩ = some (.int .i64 S.y) := cell_blk hb3 rfl
   have x2 : w3.cell? ⟨b, 2, none⟩ = some (.int .i64 S.z) := cell_blk hb3 rfl
   obtain ⟨d, hd⟩ : ∃ d, needOf wd last S = d := ⟨_, rfl⟩
   rw [hd] at Hd
   have hdb : -60000000 ≤ d ∧ d ≤ 10000 := by rw [← hd]; unfold needOf; split <;> omega
   have hd0 : last = false → d = plain wd - S.w := fun h => by rw [← hd, h]; rfl
   have hd1 : last = true → plain wd - S.w ≤ 0 → d = plain wd - S.w := fun h h2 => by rw [← hd, h]; unfold needOf; simp only [if_true]; omega
   have hd2 : last = true → 0 ≤ plain wd - S.w → d = 0 := fun h h2 => by rw [← hd, h]; unfold needOf; simp only [if_true]; omega
   clear hd
   go_upto_if 32 with (fail)
   go_cut [12] (fun v wx => v = .int .i64 d ∧ wx = w3)
   case first =>
    cases last
    ·have e := hd0 rfl
     clear hd0 hd1 hd2
     subst e
     go_wp2; go_meet; exact ⟨rfl, rfl⟩
    ·rcases (by omega : plain wd - S.w < 0 ∨ plain wd - S.w = 0 ∨ 0 < plain wd - S.w) with h | h | h
     ·have e := hd1 rfl (by omega)
      clear hd0 hd1 hd2
      subst e
      go_wp2; go_meet; exact ⟨rfl, rfl⟩
     ·have e := hd2 rfl (by omega)
      clear hd0 hd1 hd2
      subst e
      rw [h]
      go_wp2; all_goals (go_meet; exact ⟨rfl, rfl⟩)
     ·have e := hd2 rfl (by omega)
      clear hd0 hd1 hd2
      subst e
      go_wp2; go_meet; exact ⟨rfl, rfl⟩
   case rest =>
    obtain ⟨rfl, rfl⟩ := hcut
    clear hd0 hd1 hd2
    have hF3 := hid (HF.out wc.drew ((Kept.of_below hB3 0).trans (Kept.drew 0 wc)))
    have hlp : Below wc.heap.size wc.drew wc.drew := Below.refl _ _
    have hCol : ∀ w4, w4 = wc.drew.alloc (.cells (lineC (.slice p l.length cap) f l.length d S) 132) → Calls Tryz.prog 78 #[.func (.func 105) #[] #[.pointer (some ⟨wc.drew.heap.size, 0, none⟩)]] w4
      fun e w' => ∃ u, e = .returned u ∧ PcAt w' u (allPcs d S l f l.length) ∧ Below w.heap.size w w' := by
     rintro w4 rfl
     have hb4 := World.alloc_heap_new wc.drew (.cells (lineC (.slice p l.length cap) f l.length d S) 132)
     have hB4 := (Below.drew hB3).alloc hB3.size (.cells (lineC (.slice p l.length cap) f l.length d S) 132)
     refine (Collect_any _ 105 _ ownPi (by decide) (by decide) (PiR wc.drew.heap.size (.slice p l.length cap) f l.length d S l) (allPcs d S l f l.length) (hlen.out d)
      (enters_of Tryz.func105 (by kernel_rfl) rfl) (fun B => PiR.st B) (fun W hW => ⟨(hW.block _ (by simp)).trans hb4, (Kept.of_below (hB4.trans (hW.mono hB4.size)) 0).sl Hl.out⟩) (hseq.out _ d (by omega) hdb.1 hdb.2)).mono ?_
     rintro e w' ⟨u, rfl, h1, h2⟩
     exact ⟨u, rfl, h1, hB4.trans (h2.mono hB4.size)⟩
    have hPie := pieces_any (.slice p l.length cap) f l.length d S wc.drew p l.length cap rfl
    unfold lineC at hCol hPie
    replace hCol := hid hCol
    replace hPie := hid hPie
    have y0 : wc.cell? ⟨b, 0, none⟩ = some (.int .i64 S.w) := cell_blk hb3 rfl
    have y1 : wc.cell? ⟨b, 1, none⟩ = some (.int .i64 S.y) := cell_blk hb3 rfl
    have y2 : wc.cell? ⟨b, 2, none⟩ = some (.int .i64 S.z) := cell_blk hb3 rfl
    clear hseq hlen HF HP hlp
    go_wp2
    go_region_with (first
     | (go_at_call 66; refine hF3.out.mono ?_; rintro e w' ⟨rfl, rfl⟩)
     | (go_at_call 79; refine hPie.out.mono ?_; rintro e w' ⟨rfl, rfl⟩)
     | (go_at_call 78; refine (hCol.out _ rfl).mono ?_; rintro e w' ⟨u, rfl, hsu, hBu⟩))
    all_goals
     go_wp2
     go_ret
     exact ⟨_, rfl, by rw [Hd.out, if_pos hlt]; exact hsu, hBu⟩
  ·go_wp2
   go_ret
   exact ⟨_, rfl, by rw [Hd.out, if_neg hlt]; exact ⟨.inl ⟨rfl, rfl⟩, fun a n m e => by cases e⟩, Below.refl _ _⟩
end Go.Proofs.YtempicociampoaaGreatDoor
