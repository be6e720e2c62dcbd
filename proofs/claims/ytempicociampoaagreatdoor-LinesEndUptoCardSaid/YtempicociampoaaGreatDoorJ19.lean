/- The walks of items.beginning and of the iterator of a part's items. The walk of the iterator of a part's items (by mk_ite.py). -/
import Derived.Test.YtempicociampoaaGreatDoorItB
import Derived.Test.YtempicociampoaaGreatDoorJ5
namespace Go.Proofs.YtempicociampoaaGreatDoor
open Go.RowKit Go.Shelf
attribute [local go_sem] Oper.semAt_some

theorem owns_lit (w : World) (base : Nat) (e : TypeId) (size n : Nat) (cs : List Value) (hb : base ≤ w.heap.size) (hl : cs.length = n * size) (hn : n ≤ maxLen) : (w.alloc (.cells cs.toArray e)).ownsRow base e size (.slice (some ⟨w.heap.size, 0, none⟩) n n) n cs :=
 ⟨hl, .inr ⟨w.heap.size, n, cs.toArray, rfl, hb, World.alloc_heap_new w _, Nat.le_refl _, hn, by simpa using hl, by simp [← hl]⟩⟩
theorem boxS_any (s : ByteArray) (w : World) (hs : s.size ≤ 2000000) (hT : Tabs w) : Calls Tryz.prog 84 #[.string s] w fun e w' => e = .returned (.agg #[.int .i64 1, .int .i64 (tm s), .int .i64 0, .int .i64 0, .int .i64 0, .string s]) ∧ Below w.heap.size w w' := box_any s w hs hT
theorem spaceS_any (w : World) : Calls Tryz.prog 83 #[] w fun e w' => e = .returned (.agg #[.int .i64 2, .int .i64 4, .int .i64 2, .int .i64 1, .int .i64 0, .string ⟨#[]⟩]) ∧ Below w.heap.size w w' := space_any w
theorem tieS_any (w : World) : Calls Tryz.prog 107 #[] w fun e w' => e = .returned (.agg #[.int .i64 2, .int .i64 4, .int .i64 0, .int .i64 0, .int .i64 0, .string ⟨#[]⟩]) ∧ Below w.heap.size w w' := tie_any w

set_option maxRecDepth 100000 in
set_option maxHeartbeats 2000000 in
theorem beginning_any (kind : Int) (wv : Value) (a b c d ind : Int) (w : World) (hT : Tabs w) :
  Calls Tryz.prog 82 #[.agg #[.int .i64 kind, wv], .agg #[.int .i64 a, .int .i64 b, .int .i64 c, .int .i64 d, .int .i64 ind]] w fun e w' => ∃ v, e = .returned v ∧ w'.ownsRow w.heap.size 49 6 v (beginI kind ind).length ((beginI kind ind).flatMap encIt) ∧ Below w.heap.size w w' := by
 have cB := hid (fun W (h : Below w.heap.size w W) => boxS_any ⟨#[42]⟩ W (by decide) (hT.below h))
 have hbg : beginI kind ind = if kind = 1 ∧ 0 < ind then [⟨1, ind, 0, 0, 0, eb0⟩] else if kind = 3 then [boxT ⟨#[42]⟩, tieT] else [] := rfl
 have hbt : encIt (boxT ⟨#[42]⟩) = [.int .i64 1, .int .i64 (tm ⟨#[42]⟩), .int .i64 0, .int .i64 0, .int .i64 0, .string ⟨#[42]⟩] := rfl
 have hB2 : Below w.heap.size w ((w.alloc (.cells #[.int .i64 kind, wv] 24)).alloc (.cells #[.int .i64 a, .int .i64 b, .int .i64 c, .int .i64 d, .int .i64 ind] 26)) := ((Below.refl w.heap.size w).alloc (Nat.le_refl _) _).alloc (by simp) _
 replace hbg := hid hbg
 generalize beginI kind ind = L at *
 generalize boxT ⟨#[42]⟩ = bt at *
 generalize tm ⟨#[42]⟩ = n at *
 go_enter Tryz.func82, Tryz.ntmps82
 by_cases h1 : kind = 1
 ·subst h1
  by_cases h2 : 0 < ind
  ·go_wp2_with (fail)
   go_ret
   refine ⟨_, rfl, ?_, hB2.alloc hB2.size _⟩
   rw [show L = [⟨1, ind, 0, 0, 0, eb0⟩] by rw [hbg.out]; simp [h2]]
   have := owns_lit ((w.alloc (.cells #[.int .i64 1, wv] 24)).alloc (.cells #[.int .i64 a, .int .i64 b, .int .i64 c, .int .i64 d, .int .i64 ind] 26)) w.heap.size 49 6 1 [.int .i64 1, .int .i64 ind, .int .i64 0, .int .i64 0, .int .i64 0, .string ⟨#[]⟩] hB2.size rfl (by unfold maxLen; omega)
   simpa [encIt, eb0] using this
  ·go_wp2_with (fail)
   go_ret
   refine ⟨_, rfl, ?_, hB2⟩
   rw [show L = [] by rw [hbg.out]; simp [h2]]
   exact World.ownsRow_nil _ _ _ _
 ·by_cases h3 : kind = 3
  ·subst h3
   go_wp2_with (fail)
   refine (cB.out _ hB2).mono ?_
   rintro e w3 ⟨rfl, b3⟩
   have B3 := hB2.trans (b3.mono hB2.size)
   go_wp2_with (fail)
   refine (tieS_any _).mono ?_
   rintro e w4 ⟨rfl, b4⟩
   have B4 := B3.trans (b4.mono B3.size)
   have z4 := B4.size
   go_wp2_with (fail)
   go_ret
   refine ⟨_, rfl, ?_, B4.alloc z4 _⟩
   rw [show L = [bt, tieT] by rw [hbg.out]; simp]
   rw [show ([bt, tieT] : List It).flatMap encIt = encIt bt ++ encIt tieT by simp, hbt]
   exact owns_lit w4 w.heap.size 49 6 2 _ z4 rfl (by unfold maxLen; omega)
  ·go_wp2_with (fail)
   go_ret
   refine ⟨_, rfl, ?_, hB2⟩
   rw [show L = [] by rw [hbg.out]; simp [h1, h3]]
   exact World.ownsRow_nil _ _ _ _

theorem encIt_enc (l : List It) : ∀ x ∈ l, (encIt x).length = 6 ∧ ∀ u ∈ encIt x, u.oneCell' = true := fun x _ => ⟨rfl, fun u hu => by
 simp only [encIt, List.mem_cons, List.not_mem_nil, or_false] at hu
 rcases hu with rfl | rfl | rfl | rfl | rfl | rfl <;> rfl⟩
/-- what the iterator reads: the part, the style, the words, the library's tables -/
structure AlR (kind : Int) (wv : Value) (ws : List ByteArray) (a b c d ind : Int) (p q : Nat) (W : World) : Prop where
 part : W.heap[p]? = some (.cells #[.int .i64 kind, wv] 24 (0, 0))
 style : W.heap[q]? = some (.cells #[.int .i64 a, .int .i64 b, .int .i64 c, .int .i64 d, .int .i64 ind] 26 (0, 0))
 words : Sl W 1 encS wv ws
 tabs : Tabs W
 asp : Asp W
theorem Tabs.kept {B : Nat} {w w' : World} (h : Tabs w) (hk : Kept B w w') : Tabs w' := ⟨fun c hc => hk.cell (h.1 c hc), fun i hi => ⟨hk.cell (h.2 i hi).1, hk.cell (h.2 i hi).2⟩⟩
theorem AlR.st {kind : Int} {wv : Value} {ws : List ByteArray} {a b c d ind : Int} {p q : Nat} (B : Nat) : St B (AlR kind wv ws a b c d ind p q) := fun _ _ hk ⟨h1, h2, h3, h4, h5⟩ => ⟨hk.same _ _ h1 (.inl rfl), hk.same _ _ h2 (.inl rfl), hk.sl h3, h4.kept hk, h5.kept hk⟩
end Go.Proofs.YtempicociampoaaGreatDoor
namespace Go.Proofs.YtempicociampoaaGreatDoor
open Go.RowKit Go.Shelf
attribute [local go_sem] Oper.semAt_some

theorem it_cells {w : World} {b o : Nat} {x : It} (h : w.rangeAt b o (encIt x)) : w.cell? ⟨b, o, none⟩ = some (.int .i64 x.kind) ∧ w.cell? ⟨b, o + 1, none⟩ = some (.int .i64 x.w) ∧ w.cell? ⟨b, o + 2, none⟩ = some (.int .i64 x.y) ∧ w.cell? ⟨b, o + 3, none⟩ = some (.int .i64 x.z) ∧ w.cell? ⟨b, o + 4, none⟩ = some (.int .i64 x.cost) ∧ w.cell? ⟨b, o + 5, none⟩ = some (.string x.text) :=
 ⟨h 0 _ rfl, h 1 _ rfl, h 2 _ rfl, h 3 _ rfl, h 4 _ rfl, h 5 _ rfl⟩

set_option maxRecDepth 100000 in
set_option maxHeartbeats 8000000 in
theorem all1_seq (kind : Int) (wv : Value) (ws : List ByteArray) (a b c d ind : Int) (p q : Nat) (hws : ws.length ≤ 300) (hsz : ∀ s ∈ ws, s.size ≤ 2000000) :
  SeqM Tryz.prog 81 #[.pointer (some ⟨p, 0, none⟩), .pointer (some ⟨q, 0, none⟩)] itEnc (AlR kind wv ws a b c d ind p q) (fun pre x _ => pre ++ [x] <+: itemsTo kind ind d ws ws.length) (fun xs _ => xs = itemsTo kind ind d ws ws.length) (fun _ _ => True) := by
 intro L J0 J Jx W hJ0 hJ hJx hM hY h0 hR0
 obtain ⟨i0, hi, hz0, hz1, hz2⟩ := info_parts Tryz.infoIt
 have hpl : p < W.heap.size := (Array.getElem?_eq_some_iff.1 hR0.part).1
 have hql : q < W.heap.size := (Array.getElem?_eq_some_iff.1 hR0.style).1
 have hsl := hR0.words
 obtain ⟨pw, cw, rfl, hwx⟩ := hsl.shape
 have p0 := cell_blk hR0.part (i := 0) rfl
 have p1 := cell_blk hR0.part (i := 1) rfl
 have s0 := cell_blk hR0.style (i := 0) rfl
 have s1 := cell_blk hR0.style (i := 1) rfl
 have s2 := cell_blk hR0.style (i := 2) rfl
 have s3 := cell_blk hR0.style (i := 3) rfl
 have s4 := cell_blk hR0.style (i := 4) rfl
 refine calls_of_wpIn Tryz.func81 rfl ?_
 simp only [Tryz.ntmps81, List.size_toArray, List.length_cons, List.length_nil, Nat.reduceAdd, Nat.reduceSub, Array.replicate_succ, Array.replicate_zero, List.push_toArray, List.append_toArray, List.nil_append, List.cons_append]
 gi_wp2_with (fail)
 refine ⟨trivial, rfl, (callsIn_wide.2 (beginning_any kind _ a b c d ind W hR0.tabs)).mono ?_⟩
 rintro e w1 ⟨v, rfl, r1, B1⟩
 replace p0 := (B1.cell (p := ⟨p, 0, none⟩) hpl).trans p0
 replace p1 := (B1.cell (p := ⟨p, 1, none⟩) hpl).trans p1
 clear s0 s1 s2 s3 s4
 gi_wp2_with (fail)
 gi_loopw [4, 15] (fun v i wr => ∃ k : Nat, k ≤ ws.length ∧ i = .int .i64 k ∧ (∃ u, v = u ∧ wr.ownsRow W.heap.size 49 6 u (itemsTo kind ind d ws k).length ((itemsTo kind ind d ws k).flatMap encIt)) ∧ Below W.heap.size W wr) (fun _ i _ => ws.length - (RowKit.intOf i).toNat)
 case atStart => exact ⟨0, Nat.zero_le _, rfl, ⟨_, rfl, r1⟩, B1⟩
 case round =>
  obtain ⟨k, hk, rfl, ⟨_, rfl, hrow⟩, hB⟩ := hrel
  obtain ⟨pv, cv, rfl, hv1, hv2⟩ := owns_shape hrow
  unfold maxLen at hv2
  have hR := AlR.st 0 _ _ (Kept.of_below hB 0) hR0
  have hzr := hB.size
  by_cases hkl : k < ws.length
  ·have hkI : (k : Int) < (ws.length : Int) := by omega
   obtain ⟨nb, no, cap, e1, e2, e3, e4⟩ := hR.words.open (by rintro rfl; simp at hkl)
   simp only [Value.slice.injEq] at e1
   obtain ⟨rfl, -, rfl⟩ := e1
   have hck := rangeAt_one (e4 k ws[k] (List.getElem?_eq_getElem hkl))
   rw [Nat.mul_one] at hck
   have hTs := hsz ws[k] (List.getElem_mem _)
   have hgd : ws.getD k eb0 = ws[k] := by rw [List.getD_eq_getElem?_getD, List.getElem?_eq_getElem hkl]; rfl
   have hsp : itemsTo kind ind d ws (k + 1) = itemsTo kind ind d ws k ++ (if 0 < k then [spaceT] else []) ++ (if kind = 2 then [boxT ws[k]] else wordI d ws[k]) := by rw [itemsTo, hgd]
   have hlen := itemsTo_len kind ind d ws k
   have hwl := wordI_len d ws[k]
   have heT : encIt (boxT ws[k]) = [.int .i64 1, .int .i64 (tm ws[k]), .int .i64 0, .int .i64 0, .int .i64 0, .string ws[k]] := rfl
   have cBx := hid (fun (W1 : World) (h : Below W.heap.size W W1) => boxS_any ws[k] W1 (by omega) (hR0.tabs.below h))
   have cWd := hid (fun (W1 : World) (h : Below W.heap.size W W1) => Word_any ws[k] a b c d ind W1 hTs (hR0.tabs.below h) (hR0.asp.below h))
   clear e4 hgd
   generalize boxT ws[k] = bt at *
   generalize tm ws[k] = n at *
   generalize wordI d ws[k] = WI at *
   generalize ws[k] = T at *
   generalize itemsTo kind ind d ws k = L0 at *
   obtain ⟨L1, hL1⟩ : ∃ L1, L0 ++ (if 0 < k then [spaceT] else []) = L1 := ⟨_, rfl⟩
   have hL1s : L1.length ≤ L0.length + 1 := by rw [← hL1, List.length_append]; split <;> simp
   rw [hL1] at hsp
   replace hL1 := hid hL1
   replace hsp := hid hsp
   replace heT := hid heT
   gi_upto_if 21 with (fail)
   gi_cut [4, 21] from 99 (fun v _ wx => ∃ u, v = u ∧ wx.ownsRow W.heap.size 49 6 u L1.length (L1.flatMap encIt) ∧ Below W.heap.size W wx)
   case first =>
    by_cases k0 : 0 < k
    ·have k0I : (0 : Int) < k := by omega
     gi_wp2_with (fail)
     refine ⟨trivial, rfl, (callsIn_wide.2 (spaceS_any _)).mono ?_⟩
     rintro e w5 ⟨rfl, b5⟩
     have r5 := (Kept.of_below b5 0).owns hrow
     have B5 := hB.trans (b5.mono hzr)
     have z5 := B5.size
     gi_wp2_with (gi_at_builtin; go_must (refine wpListIn_append_own _ rfl _ _ 40 rfl W.heap.size 49 i0 (.agg #[.int .i64 0, .int .i64 0, .int .i64 0, .int .i64 0, .int .i64 0, .string ⟨#[]⟩]) 6 56 Tryz.underlying40 hi hz0 hz1 hz2 rfl (by decide) _ _ _ rfl (r5.alloc _) ⟨_, 0, none⟩ 1 1 [.int .i64 2, .int .i64 4, .int .i64 2, .int .i64 1, .int .i64 0, .string ⟨#[]⟩] rfl rfl (cells_new _ _ _) (by simp [Value.oneCell']) (by unfold maxLen; omega) (by omega) (by simp; omega) ?_; intro v' w7 hown' hgrow _))
     gi_meet
     refine ⟨_, rfl, ?_, (B5.alloc z5 _).grown hgrow (by simp; omega) (fun j e => own_base r5 e)⟩
     rw [← hL1.out, if_pos k0, List.length_append, List.flatMap_append]
     simpa [encIt, spaceT, eb0] using hown'
    ·have k0I : ¬ (0 : Int) < k := by omega
     gi_wp2_with (fail)
     gi_meet
     refine ⟨_, rfl, ?_, hB⟩
     rw [← hL1.out, if_neg k0, List.append_nil]
     exact hrow
   case rest =>
    obtain ⟨u1, rfl, rc, Bc⟩ := hcut
    obtain ⟨pq, cq, rfl, hq1, hq2⟩ := owns_shape rc
    unfold maxLen at hq2
    have zc := Bc.size
    have hRc := AlR.st 0 _ _ (Kept.of_below Bc 0) hR0
    have p0c := cell_blk hRc.part (i := 0) rfl
    have s0 := cell_blk hRc.style (i := 0) rfl
    have s1 := cell_blk hRc.style (i := 1) rfl
    have s2 := cell_blk hRc.style (i := 2) rfl
    have s3 := cell_blk hRc.style (i := 3) rfl
    have s4 := cell_blk hRc.style (i := 4) rfl
    clear hrow hB hR p0 p1
    by_cases k2 : kind = 2
    ·subst k2
     gi_wp2_with (fail)
     refine ⟨trivial, rfl, (callsIn_wide.2 (cBx.out _ Bc)).mono ?_⟩
     rintro e w5 ⟨rfl, b5⟩
     have r5 := (Kept.of_below b5 0).owns rc
     have B5 := Bc.trans (b5.mono zc)
     have z5 := B5.size
     gi_wp2_with (gi_at_builtin; go_must (refine wpListIn_append_own _ rfl _ _ 40 rfl W.heap.size 49 i0 (.agg #[.int .i64 0, .int .i64 0, .int .i64 0, .int .i64 0, .int .i64 0, .string ⟨#[]⟩]) 6 56 Tryz.underlying40 hi hz0 hz1 hz2 rfl (by decide) _ _ _ rfl (r5.alloc _) ⟨_, 0, none⟩ 1 1 [.int .i64 1, .int .i64 n, .int .i64 0, .int .i64 0, .int .i64 0, .string T] rfl rfl (cells_new _ _ _) (by simp [Value.oneCell']) (by unfold maxLen; omega) (by omega) (by simp; omega) ?_; intro v' w7 hown' hgrow _))
     refine ⟨⟨k + 1, by omega, by go_num, ⟨_, rfl, ?_⟩, (B5.alloc z5 _).grown hgrow (by simp; omega) (fun j e => own_base r5 e)⟩, by simp [RowKit.intOf]; omega⟩
     rw [hsp.out, if_pos trivial, List.length_append, List.flatMap_append]
     simpa [heT.out] using hown'
    ·gi_wp2_with (fail)
     refine ⟨trivial, rfl, (callsIn_wide.2 (cWd.out _ Bc)).mono ?_⟩
     rintro e w5 ⟨v5, rfl, o5, b5⟩
     have r5 := (Kept.of_below b5 0).owns rc
     have B5 := Bc.trans (b5.mono zc)
     have z5 := B5.size
     have sl5 := sl_of_owns (enc := encIt) (fun _ _ => rfl) o5
     gi_wp2_with (gi_at_builtin; go_must (refine wpListIn_append_sl rfl _ _ 40 rfl W.heap.size 49 i0 (.agg #[.int .i64 0, .int .i64 0, .int .i64 0, .int .i64 0, .int .i64 0, .string ⟨#[]⟩]) 6 56 Tryz.underlying40 hi hz0 hz1 hz2 rfl (by decide) _ _ _ rfl r5 encIt _ WI rfl sl5 (encIt_enc WI) (by unfold maxLen; omega) (by omega) z5 ?_; intro v' w7 hown' hgrow _))
     refine ⟨⟨k + 1, by omega, by go_num, ⟨_, rfl, ?_⟩, B5.grown hgrow z5 (fun j e => own_base r5 e)⟩, by simp [RowKit.intOf]; omega⟩
     rw [hsp.out, if_neg k2, List.length_append, List.flatMap_append]
     exact hown'
  ·obtain rfl : k = ws.length := by omega
   have hlen := itemsTo_len kind ind d ws ws.length
   have hRr := hR
   have hJ1 := hM wr.heap.size wr (hJ0 _ _ (Kept.of_below hB _) h0) hzr (Nat.le_refl _)
   have hgM : ∀ g, pv = some g → g.block < wr.heap.size := by
    intro g hg
    subst hg
    rcases hrow.2 with ⟨e1, -⟩ | ⟨g2, cap, cur, e1, hg, hh, -⟩
    ·cases e1
    ·cases e1
     exact (Array.getElem?_eq_some_iff.1 hh).1
   obtain ⟨M, hMd⟩ : ∃ M, wr.heap.size = M := ⟨_, rfl⟩
   rw [hMd] at hJ1 hgM hzr
   replace hMd := hid hMd
   clear hM hsz hsl p0 p1 r1 B1
   obtain ⟨IL, hIL⟩ : ∃ IL, itemsTo kind ind d ws ws.length = IL := ⟨_, rfl⟩
   rw [hIL] at hlen hrow hv1 hY ⊢
   replace hIL := hid hIL
   gi_wp2_with (fail)
   gi_loopw [42] (fun i wz => ∃ k : Nat, k ≤ IL.length ∧ i = .int .i64 k ∧ J M (IL.take k) wz ∧ AlR kind (.slice pw ws.length cw) ws a b c d ind p q wz ∧ wz.ownsRow W.heap.size 49 6 (.slice pv IL.length cv) IL.length (IL.flatMap encIt)) (fun i _ => IL.length - (RowKit.intOf i).toNat)
   case atStart => exact ⟨0, Nat.zero_le _, rfl, by simpa using hJ1, hRr, hrow⟩
   case round =>
    obtain ⟨k, hk, rfl, hJs, hRs, hown2⟩ := hrel
    by_cases hlt : k < IL.length
    ·have hltI : (k : Int) < (IL.length : Int) := by omega
     have hs2 := sl_of_owns (enc := encIt) (fun _ _ => rfl) hown2
     obtain ⟨nb, no, cap, e1, e2, e3, e4⟩ := hs2.open (by rintro rfl; simp at hlt)
     simp only [Value.slice.injEq] at e1
     obtain ⟨rfl, -, rfl⟩ := e1
     obtain ⟨x0, x1, x2, x3, x4, x5⟩ := it_cells (e4 k IL[k] (List.getElem?_eq_getElem hlt))
     have htk : IL.take (k + 1) = IL.take k ++ [IL[k]] := List.take_succ_eq_append_getElem hlt
     have hadm : IL.take k ++ [IL[k]] <+: IL := by rw [← htk]; exact List.take_prefix _ _
     have hY2 := hid (fun (W1 : World) h1 h2 => hY M (IL.take k) IL[k] W1 hzr h1 h2 hadm)
     have hie : itEnc IL[k] = #[.agg #[.int .i64 IL[k].kind, .int .i64 IL[k].w, .int .i64 IL[k].y, .int .i64 IL[k].z, .int .i64 IL[k].cost, .string IL[k].text]] := rfl
     rw [hie] at hY2
     clear e4 hadm hie
     replace htk := hid htk
     have hnM := hgM _ rfl
     obtain ⟨fn, tmps, assign, body, hy, hRd⟩ := hY2.out (wr.alloc (.cells #[.int .i64 IL[k].kind, .int .i64 IL[k].w, .int .i64 IL[k].y, .int .i64 IL[k].z, .int .i64 IL[k].cost, .string IL[k].text] 49)) (hJ _ _ _ _ (Kept.alloc _ _ _) hJs) (AlR.st 0 _ _ (Kept.alloc _ _ _) hRs)
     have hown3 := hown2.alloc (.cells #[.int .i64 IL[k].kind, .int .i64 IL[k].w, .int .i64 IL[k].y, .int .i64 IL[k].z, .int .i64 IL[k].cost, .string IL[k].text] 49)
     clear hY2 hs2 hgM
     replace hown3 := hid hown3
     gi_wp2
     refine ⟨rfl, hRd.mono ?_⟩
     rintro e W3 (⟨rfl, hJ3, hR3, hkm⟩ | ⟨rfl, hJx3⟩)
     ·have hown4 := KeepsM.rng_aux hown3.out (fun g o hg ho hb => hkm.same g o hg ho (.inr (by
       have : nb = g := by simpa [Value.ownBlock] using hb
       omega)))
      rw [← htk.out] at hJ3
      gi_wp2
      refine ⟨⟨k + 1, by omega, by go_num, hJ3, hR3, hown4⟩, by simp [RowKit.intOf]; omega⟩
     ·gi_wp2
      refine bodyPost_ret (results_none rfl _ _ _) rfl ?_
      exact ⟨⟨_, rfl⟩, .inr ⟨_, trivial, hJx3⟩⟩
    ·obtain rfl : k = IL.length := by omega
     rw [List.take_length] at hJs
     gi_wp2
     go_end0
     exact ⟨⟨_, rfl⟩, .inl ⟨_, M, rfl, by rw [hIL.out]; exact hJs, hRs⟩⟩
end Go.Proofs.YtempicociampoaaGreatDoor
