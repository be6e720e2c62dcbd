/- The walk of hyphen.Numbers. The walk of hyphen.Points. -/
import Derived.Test.YtempicociampoaaGreatDoorHypU
import Derived.Test.YtempicociampoaaGreatDoorJ12
import Derived.Test.YtempicociampoaaGreatDoorJ13
import Derived.Test.YtempicociampoaaGreatDoorJ9
import Derived.Test.YtempicociampoaaGreatDoorJ5
namespace Go.Proofs.YtempicociampoaaGreatDoor
open Go.RowKit Go.Shelf
attribute [local go_sem] Oper.semAt_some

theorem patterns_any (w : World) :
  Calls Tryz.prog 127 #[] w fun e w' => e = .returned (.func (.func 131) #[] #[]) ∧ w' = w := by
 go_enter Tryz.func127, Tryz.ntmps127
 go_wp2
 go_ret
 exact ⟨rfl, rfl⟩

def atVals (l : List Int) : Array Value := (l.map (Value.int .i64)).toArray

set_option maxRecDepth 100000 in
set_option maxHeartbeats 4000000 in
theorem Numbers_any (s : ByteArray) (w : World) (hs : s.size ≤ 2000000) (hR : Asp w) :
  Calls Tryz.prog 125 #[.string s] w fun e w' => ∃ v, e = .returned v ∧ Sl w' 1 encI v (numbersL s.data.toList) ∧ Below w.heap.size w w' := by
 have hc1 := hid (small_any s w hs)
 have hc2 := hid patterns_any
 refine calls_of_marks Tryz.func125 rfl ?_
 simp only [Tryz.ntmps125, List.size_toArray, List.length_cons, List.length_nil, Nat.reduceAdd, Nat.reduceSub, Array.replicate_succ, Array.replicate_zero, List.push_toArray, List.append_toArray, List.nil_append, List.cons_append]
 have hlen : s.data.toList.length = s.size := by rw [Array.length_toList]; rfl
 have hnl : numbersL s.data.toList = match smallL s.data.toList with | none => [] | some lw => numsOf lw := rfl
 have hsm : smallL s.data.toList = if s.data.toList.all isLet = true ∧ 2 ≤ s.data.toList.length ∧ s.data.toList.length ≤ 60 then some (s.data.toList.map lowB) else none := rfl
 have hso : smallOut s.data.toList = if s.data.toList.all isLet = true then #[.string ⟨(s.data.toList.map lowB).toArray⟩, .bool (decide (2 ≤ s.data.toList.length) && decide (s.data.toList.length ≤ 60))] else #[.string ⟨#[]⟩, .bool false] := rfl
 generalize numbersL s.data.toList = NL at *
 generalize smallL s.data.toList = SM at *
 generalize smallOut s.data.toList = SO at *
 obtain ⟨lw, hlw⟩ : ∃ lw, s.data.toList.map lowB = lw := ⟨_, rfl⟩
 have hll : lw.length = s.size := by rw [← hlw, List.length_map, hlen]
 have hlow : s.data.toList.all isLet = true → ∀ c ∈ lw, c.toNat < 128 := by
  intro h c hc
  rw [← hlw] at hc
  obtain ⟨d, hd, rfl⟩ := List.mem_map.1 hc
  have := List.all_eq_true.1 h d hd
  unfold isLet at this
  simp at this
  omega
 rw [hlw] at hsm hso
 obtain ⟨b, hb⟩ : ∃ b, s.data.toList.all isLet = b := ⟨_, rfl⟩
 rw [hb] at hlow
 rw [hb, hlen] at hsm hso
 clear hlw hb hlen
 by_cases hok : b = true ∧ 2 ≤ s.size ∧ s.size ≤ 60
 ·obtain ⟨rfl, h2, h60⟩ := hok
  simp only [h2, h60, if_true, decide_true, Bool.and_true, and_self] at hsm hso
  subst hsm hso
  dsimp only at hnl
  subst hnl
  obtain ⟨LW, hLW⟩ : ∃ LW : ByteArray, LW = ⟨lw.toArray⟩ := ⟨_, rfl⟩
  rw [← hLW] at hc1
  have hLs : LW.size = s.size := by rw [hLW]; exact hll
  obtain ⟨D1, hD1⟩ : ∃ D1 : ByteArray, D1 = ⟨#[46]⟩ ++ LW := ⟨_, rfl⟩
  obtain ⟨D, hD⟩ : ∃ D : ByteArray, D = D1 ++ ⟨#[46]⟩ := ⟨_, rfl⟩
  have hDl : D.data.toList = dotted lw := by rw [hD, hD1, hLW]; simp [dotted]
  have hDs : D.size = s.size + 2 := by
   have : D.data.toList.length = D.size := by rw [Array.length_toList]; rfl
   rw [← this, hDl]; simp [dotted]; omega
  have a1 : ∀ w, (Op.stringOp .add ⟨#[46]⟩ LW).run Tryz.prog w = .ok (.string D1) w := fun w => by
   rw [hD1]; exact run_string_add w _ _ (by show ((1 : Nat) : Int) ≤ _; omega) (by omega)
  have a2 : ∀ w, (Op.stringOp .add D1 ⟨#[46]⟩).run Tryz.prog w = .ok (.string D) w := fun w => by
   rw [hD]; refine run_string_add w _ _ ?_ (by show ((1 : Nat) : Int) ≤ _; omega)
   rw [hD1, ByteArray.size_append, hLs]; show ((1 + s.size : Nat) : Int) ≤ _; omega
  have a3 : ∀ W, (Instr.makeSlice 50 (.int .i64 ((s.size : Int) + 2 + 1)) (.int .i64 ((s.size : Int) + 2 + 1))).run Tryz.prog W = .ok (.slice (some ⟨W.heap.size, 0, none⟩) (s.size + 3) (s.size + 3)) (W.alloc (.cells (atVals (List.replicate (s.size + 3) 0)) 3)) := fun W => by
   obtain ⟨i0, hi, hz0, hz1, hz2⟩ := info_parts Tryz.infoI
   rw [run_makeSlice W 50 3 i0 (.int .i64 0) Tryz.underlying50 hi hz0 .i64 .i64 ((s.size : Int) + 2 + 1) ((s.size : Int) + 2 + 1) (by omega) (by omega) (by rw [hz1]; omega) (by rw [hz2]; omega) (by omega), hz1]
   have e1 : ((s.size : Int) + 2 + 1).toNat = s.size + 3 := by omega
   rw [e1]
   unfold madeCells atVals
   congr 4
   refine Array.ext (by simp) (fun i h1 h2 => ?_)
   simp [Value.cells, Nat.mod_one]
  clear hLW hD1 hD
  gi_wp2_with (fail)
  refine ⟨trivial, rfl, (callsIn_wide.2 hc1.out).mono ?_⟩
  rintro e w1 ⟨rfl, hB1⟩
  gi_wp2_with (fail)
  refine ⟨trivial, rfl, (callsIn_wide.2 (hc2.out _)).mono ?_⟩
  rintro e w2 ⟨rfl, rfl⟩
  have hB4 := ((hB1.alloc hB1.size (.cells #[.string D] 9)).alloc (by have := hB1.size; simp; omega) (.cells (atVals (List.replicate (s.size + 3) 0)) 3)).alloc (by have := hB1.size; simp; omega) (.cells #[.slice (some ⟨w1.heap.size + 1, 0, none⟩) (s.size + 3) (s.size + 3)] 50)
  have f1 : (((w1.alloc (.cells #[.string D] 9)).alloc (.cells (atVals (List.replicate (s.size + 3) 0)) 3)).alloc (.cells #[.slice (some ⟨w1.heap.size + 1, 0, none⟩) (s.size + 3) (s.size + 3)] 50)).heap[w1.heap.size]? = some (.cells #[.string D] 9 (0, 0)) :=
   ((Kept.alloc 0 _ _).trans (Kept.alloc 0 _ _)).same _ _ (World.alloc_heap_new w1 _) (.inl rfl)
  have f2 : (((w1.alloc (.cells #[.string D] 9)).alloc (.cells (atVals (List.replicate (s.size + 3) 0)) 3)).alloc (.cells #[.slice (some ⟨w1.heap.size + 1, 0, none⟩) (s.size + 3) (s.size + 3)] 50)).heap[w1.heap.size + 1]? = some (.cells (atVals (List.replicate (s.size + 3) 0)) 3 (0, 0)) := by
   have := World.alloc_heap_new (w1.alloc (.cells #[.string D] 9)) (.cells (atVals (List.replicate (s.size + 3) 0)) 3)
   rw [World.size_alloc] at this
   exact (Kept.alloc 0 _ _).same _ _ this (.inl rfl)
  have f3 : (((w1.alloc (.cells #[.string D] 9)).alloc (.cells (atVals (List.replicate (s.size + 3) 0)) 3)).alloc (.cells #[.slice (some ⟨w1.heap.size + 1, 0, none⟩) (s.size + 3) (s.size + 3)] 50)).heap[w1.heap.size + 2]? = some (.cells #[.slice (some ⟨w1.heap.size + 1, 0, none⟩) (s.size + 3) (s.size + 3)] 50 (0, 0)) := by
   have := World.alloc_heap_new ((w1.alloc (.cells #[.string D] 9)).alloc (.cells (atVals (List.replicate (s.size + 3) 0)) 3)) (.cells #[.slice (some ⟨w1.heap.size + 1, 0, none⟩) (s.size + 3) (s.size + 3)] 50)
   rw [World.size_alloc, World.size_alloc] at this
   exact this
  have hz : (((w1.alloc (.cells #[.string D] 9)).alloc (.cells (atVals (List.replicate (s.size + 3) 0)) 3)).alloc (.cells #[.slice (some ⟨w1.heap.size + 1, 0, none⟩) (s.size + 3) (s.size + 3)] 50)).heap.size = w1.heap.size + 3 := by simp
  have hwa := hB1.size
  generalize ((w1.alloc (.cells #[.string D] 9)).alloc (.cells (atVals (List.replicate (s.size + 3) 0)) 3)).alloc (.cells #[.slice (some ⟨w1.heap.size + 1, 0, none⟩) (s.size + 3) (s.size + 3)] 50) = W0 at *
  generalize w1.heap.size = a at *
  gi_wp2_with (fail)
  refine range_boxY rfl (enters_of Tryz.func131 (by kernel_rfl) rfl) (patterns1_seq (a + 3)) (fun _ => rfl)
   (fun pre W => W.heap[a]? = some (.cells #[.string D] 9 (0, 0)) ∧ W.heap[a + 1]? = some (.cells (atVals (allPats (dotted lw) (pre.map Prod.fst))) 3 (0, 0)) ∧ W.heap[a + 2]? = some (.cells #[.slice (some ⟨a + 1, 0, none⟩) (s.size + 3) (s.size + 3)] 50 (0, 0)) ∧ a + 3 ≤ W.heap.size ∧ Below w.heap.size w W)
   (fun _ _ _ => False) ?hI (fun _ _ _ _ _ h => h) (fun B A C hk h => ⟨h.1.kept hk, Nat.le_trans h.2 hk.size⟩) (fun _ _ _ _ hk h => ⟨h.1, hk.sl h.2.1, h.2.2⟩) (fun _ => St.pure _) (fun _ => St.pure _) ?hsz ?h0 ⟨hR.below hB4, by omega⟩
   ?mk (fun x => #[.string ⟨x.1.letters.toArray⟩, .slice x.2.1 (x.1.letters.length + 1) x.2.2]) 181 ?assign ?body ?done ?stop
  case assign =>
   intro l x j W K hj hK
   dsimp only [ptEnc] at hK ⊢
   gi_wp2
   exact hK
  case hI =>
   rintro pre A C hk ⟨h1, h2, h3, h4, h5⟩
   exact ⟨hk.same _ _ h1 (.inr (by omega)), hk.same _ _ h2 (.inr (by omega)), hk.same _ _ h3 (.inr (by omega)), Nat.le_trans h4 hk.size, hk.below (by omega) (Nat.le_refl _) h5⟩
  case hsz => exact fun _ _ h => by have := h.2.2.2.1; omega
  case h0 =>
   refine ⟨f1, ?_, f3, by omega, hB4⟩
   rw [f2]
   unfold allPats
   simp [dotted, hll]
  case body =>
   rintro l pre ⟨p, pu, pc⟩ j W hl2 _ ⟨h1, h2, h3, h4, h5⟩ hR' ⟨hpp, hpsl, hpu⟩ hj hx
   dsimp only at hpp hpsl hpu hx
   have hpm : p ∈ pats := hpp.subset (by simp)
   have hpd := pats_dig p hpm
   have hpl : 1 ≤ p.letters.length ∧ p.letters.length ≤ 8 ∧ p.nums.length = p.letters.length + 1 := by
    have h2 : (pats.all fun y => decide (1 ≤ y.letters.length ∧ y.letters.length ≤ 8 ∧ y.nums.length = y.letters.length + 1)) = true := by decide
    have h3 := List.all_eq_true.1 h2 p hpm
    simpa using h3
   obtain ⟨A0, hA0⟩ : ∃ A0, allPats (dotted lw) (pre.map Prod.fst) = A0 := ⟨_, rfl⟩
   have hA0l : A0.length = s.size + 3 := by rw [← hA0, allPats_len]; simp [dotted, hll]
   have hA0d : dig A0 := by
    rw [← hA0]
    refine dig_allPats _ fun q hq => pats_dig q (hpp.subset ?_)
    simp only [List.map_append, List.mem_append]
    exact .inl hq
   rw [hA0] at h2
   obtain ⟨PL, hPL⟩ : ∃ PL : ByteArray, PL = ⟨p.letters.toArray⟩ := ⟨_, rfl⟩
   have hPLs : PL.size = p.letters.length := by rw [hPL]; rfl
   rw [← hPL] at hx
   have hdl : (dotted lw).length = D.size := by rw [hDs]; simp [dotted, hll]
   have hd0 := cell_blk h1 (i := 0) rfl
   have hp0 := cell_blk hx (i := 0) rfl
   have hp1 := cell_blk hx (i := 1) rfl
   have hs0 := cell_blk h3 (i := 0) rfl
   clear hc1 hc2 a1 a2 a3 hB1 hB4 f1 f2 f3
   gi_wp2
   gi_loopw [29] (fun _ wr => ∃ f : Nat, f ≤ D.size ∧ wr.heap[W.heap.size]? = some (.stringIter D f) ∧ wr.heap[a + 1]? = some (.cells (atVals (onePat (dotted lw) p A0 f)) 3 (0, 0)) ∧ W.grownBy wr (some (a + 1)) ∧ W.heap.size + 1 ≤ wr.heap.size) (fun _ wr => D.size - wr.iterPos W.heap.size)
   case atStart =>
    refine ⟨0, Nat.zero_le _, World.iter_heap W D 0, ?_, ?_, ?_⟩
    ·exact (Below.heap_alloc W _ _ (Array.getElem?_eq_some_iff.1 h2).1).trans h2
    ·exact ⟨rfl, rfl, rfl, by simp [World.iter], fun k hk _ => Array.getElem?_push_lt hk |>.trans (Array.getElem?_eq_getElem hk).symm⟩
    ·simp [World.iter]
   case round =>
    obtain ⟨f, hf, hit, hat, hg, hsz⟩ := hrel
    have hdw : wr.cell? ⟨a, 0, none⟩ = some (.string D) := cell_blk (i := 0) ((hg.block a (by omega) (by simp)).trans h1) rfl
    have hjlt := (Array.getElem?_eq_some_iff.1 hx).1
    have hp0w : wr.cell? ⟨j, 0, none⟩ = some (.string PL) := cell_blk (i := 0) ((hg.block j hjlt (by simp; omega)).trans hx) rfl
    by_cases hfl : f < D.size
    ·have hDf : (D[f]'hfl).toNat < 128 := by
      have h1 : D[f]'hfl ∈ D.data.toList := Array.mem_toList_iff.2 (Array.getElem_mem (xs := D.data) hfl)
      rw [hDl] at h1
      unfold dotted at h1
      simp only [List.mem_cons, List.mem_append, List.not_mem_nil, or_false] at h1
      rcases h1 with h1 | h1 | h1
      ·rw [h1]; decide
      ·exact hlow trivial _ h1
      ·rw [h1]; decide
     have hnx := fun ty => next_ascii (P := Tryz.prog) hit ty hfl hDf
     generalize (D[f]'hfl).toNat = dc at *
     have hit6 : (wr.putObj W.heap.size (.stringIter D (f + 1))).heap[W.heap.size]? = some (.stringIter D (f + 1)) := World.putObj_heap_same (Array.getElem?_eq_some_iff.1 hit).1
     have hold : ∀ k, k ≠ W.heap.size → (wr.putObj W.heap.size (.stringIter D (f + 1))).heap[k]? = wr.heap[k]? := fun k hk => World.putObj_heap_other hk
     have hsz6 : (wr.putObj W.heap.size (.stringIter D (f + 1))).heap.size = wr.heap.size := by simp [World.putObj]
     have hg6 : W.grownBy (wr.putObj W.heap.size (.stringIter D (f + 1))) (some (a + 1)) := ⟨hg.os, hg.tape, hg.output, by rw [hsz6]; exact hg.size, fun k hk hn => (hold k (by omega)).trans (hg.block k hk hn)⟩
     have hat6 := (hold (a + 1) (by omega)).trans hat
     have hdw6 := (World.cell?_of_block (a := ⟨a, 0, none⟩) (hold a (by omega))).trans hdw
     have hp0w6 := (World.cell?_of_block (a := ⟨j, 0, none⟩) (hold j (by omega))).trans hp0w
     clear hold
     generalize wr.putObj W.heap.size (.stringIter D (f + 1)) = w6 at *
     obtain ⟨E, hE⟩ : ∃ E : ByteArray, E = D.extract f D.size := ⟨_, rfl⟩
     obtain ⟨hv, hhv⟩ : ∃ hv, hits (dotted lw) p f = hv := ⟨_, rfl⟩
     have hEs : E.size = D.size - f := by rw [hE, ByteArray.size_extract]; omega
     have hcp := fun w => HasPrefix_any E PL w (by omega) (by omega)
     have hev : PL.data.toList.isPrefixOf E.data.toList = hv := by
      rw [← hhv, hE, hPL, ByteArray.data_extract, Array.toList_extract, hDl]
      unfold hits
      rw [List.extract, List.take_of_length_le (by rw [List.length_drop, hdl]; exact Nat.le_refl _)]
     rw [hev] at hcp
     replace hcp := hid hcp
     clear hev
     have hE2 : D.extract f (s.size + 2) = E := by rw [hE, hDs]
     clear hE
     replace hPL := hid hPL
     gi_upto_region 11 with (fail)
     gi_cut [38] from 99 (fun v wx => v = .bool (!hv) ∧ wx = w6.drew)
     case first =>
      rename_i J2 K2 hJ2 hK2
      gi_region_with (refine ⟨trivial, rfl, (CallsIn.inRound l (callsIn_wide.2 (hcp.out _))).mono ?_⟩; rintro e w' ⟨rfl, rfl⟩)
      all_goals
       first | refine hK2 _ _ (Met.intro (hJ2 _ _ ?_)) | refine Met.intro (hJ2 _ _ ?_) | refine hJ2 _ _ ?_
       (repeat apply Exists.intro)
       refine ⟨?_, rfl⟩
       exact ⟨rfl, rfl⟩
     case rest =>
      obtain ⟨rfl, rfl⟩ := hcut
      have hit7 : w6.drew.heap[W.heap.size]? = some (.stringIter D (f + 1)) := hit6
      have hat7 : w6.drew.heap[a + 1]? = some (.cells (atVals (onePat (dotted lw) p A0 f)) 3 (0, 0)) := hat6
      have hg7 : W.grownBy w6.drew (some (a + 1)) := ⟨hg6.os, hg6.tape, hg6.output, hg6.size, hg6.block⟩
      have hsz7 : W.heap.size + 1 ≤ w6.drew.heap.size := by show W.heap.size + 1 ≤ w6.heap.size; omega
      clear hcp hp0w6 hdw6 hit6 hat6 hg6 hnx hE2 hEs hdw hp0w hDf
      generalize w6.drew = w7 at *
      cases hv
      ·have hst := hid (show onePat (dotted lw) p A0 (f + 1) = onePat (dotted lw) p A0 f by rw [onePat, stepF, if_neg (by rw [hhv]; decide)])
       gi_wp2
       refine ⟨⟨f + 1, by omega, hit7, by rw [hst.out]; exact hat7, hg7, hsz7⟩, ?_⟩
       rw [iterPos_of hit7, iterPos_of hit]; omega
      ·have hst := hid (show onePat (dotted lw) p A0 (f + 1) = addN (onePat (dotted lw) p A0 f) f p.nums p.nums.length by rw [onePat, stepF, if_pos hhv])
       have hfit : f + p.letters.length ≤ s.size + 2 := by
        have h1 := (List.isPrefixOf_iff_prefix.1 hhv).length_le
        rw [List.length_drop, hdl, hDs] at h1
        omega
       have hAl : (onePat (dotted lw) p A0 f).length = s.size + 3 := by rw [onePat_len, hA0l]
       have hAd : dig (onePat (dotted lw) p A0 f) := dig_onePat hpd hA0d f
       generalize onePat (dotted lw) p A0 f = A at *
       obtain ⟨nb, no, rfl, hnc, hnb, hnr⟩ : ∃ nb no, pu = some ⟨nb, no, none⟩ ∧ p.letters.length + 1 ≤ pc ∧ pc ≤ 9223372036854775807 ∧ ∀ k, k < p.nums.length → W.cell? ⟨nb, no + k, none⟩ = some (.int .i64 (p.nums.getD k 0)) := by
        obtain ⟨b, o, cap, e1, e2, e3, e4⟩ := hpsl.open (by intro h; rw [h] at hpl; simp at hpl)
        simp only [Value.slice.injEq] at e1
        obtain ⟨rfl, -, rfl⟩ := e1
        refine ⟨b, o, rfl, by omega, by unfold maxLen at e3; omega, fun k hk => ?_⟩
        have h1 := rangeAt_one (e4 k p.nums[k] (List.getElem?_eq_getElem hk))
        rw [Nat.mul_one] at h1
        rw [List.getD_eq_getElem?_getD, List.getElem?_eq_getElem hk]
        exact h1
       have hnb3 : a + 3 ≤ nb := hpu _ rfl
       have hp1w := cell_blk (i := 1) ((hg7.block j hjlt (by simp; omega)).trans hx) rfl
       gi_wp2
       gi_loopw [42] (fun i wi => ∃ k : Nat, k ≤ p.nums.length ∧ i = .int .i64 k ∧ wi.heap[W.heap.size]? = some (.stringIter D (f + 1)) ∧ wi.heap[a + 1]? = some (.cells (atVals (addN A f p.nums k)) 3 (0, 0)) ∧ W.grownBy wi (some (a + 1)) ∧ W.heap.size + 1 ≤ wi.heap.size) (fun i _ => p.nums.length - (RowKit.intOf i).toNat)
       case atStart => exact ⟨0, Nat.zero_le _, rfl, hit7, hat7, hg7, hsz7⟩
       case round =>
        clear hit7 hat7 hg7 hsz7 hp1w
        obtain ⟨k, hk, rfl, hit7, hat7, hg7, hsz7⟩ := hrel
        have hs0w := cell_blk (i := 0) ((hg7.block (a + 2) (by omega) (by simp)).trans h3) rfl
        by_cases hkl : k < p.nums.length
        ·have hnlt : nb < W.heap.size := by
          have h := hnr k hkl
          cases h5 : W.heap[nb]? with
          | none => simp [World.cell?, h5] at h
          | some o => exact (Array.getElem?_eq_some_iff.1 h5).1
         have hnk : wr.cell? ⟨nb, no + k, none⟩ = some (.int .i64 (p.nums.getD k 0)) := (World.cell?_of_block (a := ⟨nb, no + k, none⟩) (hg7.block nb hnlt (by simp; omega))).trans (hnr k hkl)
         have hkA : f + k < (addN A f p.nums k).length := by rw [addN_len]; omega
         have hak : wr.cell? ⟨a + 1, f + k, none⟩ = some (.int .i64 ((addN A f p.nums k).getD (f + k) 0)) := cell_blk hat7 (by simp [atVals, List.getElem?_eq_getElem hkA, List.getD_eq_getElem?_getD])
         have hakf := frozen_blk (i := f + k) hat7
         have hmd := dig_getD (dig_addN hAd hpd f k) (f + k)
         have hnd := dig_getD hpd k
         have hadd := hid (show addN A f p.nums (k + 1) = (addN A f p.nums k).set (f + k) (max ((addN A f p.nums k).getD (f + k) 0) (p.nums.getD k 0)) from rfl)
         have hset := hid (setCell_blk (i := f + k) (x := .int .i64 (max ((addN A f p.nums k).getD (f + k) 0) (p.nums.getD k 0))) hat7)
         generalize (addN A f p.nums k).getD (f + k) 0 = m at *
         generalize p.nums.getD k 0 = n at *
         generalize addN A f p.nums k = B at *
         have hwf : IntKind.i64.wrap ((f : Int) + k) = f + k := IntWalk.i64_in _ (by omega)
         have hfk1 : (f : Int) + k < s.size + 3 := by omega
         have hfk0 : (0 : Int) ≤ f + k := by omega
         have hfkn : ((f : Int) + k).toNat = f + k := by omega
         gi_upto_region 15 with (fail)
         obtain ⟨x, hmx⟩ : ∃ x, max m n = x := ⟨_, rfl⟩
         rw [hmx] at hadd hset
         have hif : (if m < n then n else m) = x := by rw [← hmx]; split <;> omega
         have fin : ∃ k' : Nat, k' ≤ p.nums.length ∧ Value.int .i64 ((k : Int) + 1) = .int .i64 k' ∧ (wr.setCell ⟨a + 1, f + k, none⟩ (.int .i64 x)).drew.heap[W.heap.size]? = some (.stringIter D (f + 1)) ∧ (wr.setCell ⟨a + 1, f + k, none⟩ (.int .i64 x)).drew.heap[a + 1]? = some (.cells (atVals (addN A f p.nums k')) 3 (0, 0)) ∧ W.grownBy (wr.setCell ⟨a + 1, f + k, none⟩ (.int .i64 x)).drew (some (a + 1)) ∧ W.heap.size + 1 ≤ (wr.setCell ⟨a + 1, f + k, none⟩ (.int .i64 x)).drew.heap.size := by
          have ho : ∀ j, j ≠ a + 1 → (wr.setCell ⟨a + 1, f + k, none⟩ (.int .i64 x)).drew.heap[j]? = wr.heap[j]? := fun j hj => setCell_off (w := wr) hj
          have hs : (wr.setCell ⟨a + 1, f + k, none⟩ (.int .i64 x)).drew.heap.size = wr.heap.size := by simp [World.setCell]
          refine ⟨k + 1, by omega, by go_num, (ho _ (by omega)).trans hit7, ?_, ⟨hg7.os, hg7.tape, hg7.output, by rw [hs]; exact hg7.size, fun i hi hn => (ho i (by simpa using hn)).trans (hg7.block i hi hn)⟩, by rw [hs]; exact hsz7⟩
          rw [hadd.out]
          refine Eq.trans hset.out ?_
          congr 2
          unfold atVals
          simp [List.map_set]
         replace fin := hid fin
         gi_upto_region 15 with (fail)
         -- the region's orders
         refine region_out (by kernel_rfl) (by kernel_rfl) rfl ?_
         refine wpAnyIn_take (i := 1) (oi := ⟨some 48, _, _, _, _, _⟩) (v := ?_) rfl rfl (by kernel_rfl) (by kernel_rfl) (by kernel_rfl) (fun _ _ _ h => h) ⟨Or.inl ⟨by rfl, ?_⟩, fun _ => rfl⟩ ?_
         rotate_left
         ·intro w; go_simp <;> with_reducible rfl
         refine wpAnyIn_take (i := 2) (oi := ⟨some 49, _, _, _, _, _⟩) (v := ?_) rfl rfl (by kernel_rfl) (by kernel_rfl) (by kernel_rfl) (fun _ _ _ h => h) ⟨Or.inl ⟨by rfl, ?_⟩, fun _ => rfl⟩ ?_
         rotate_left
         ·intro w; go_simp <;> with_reducible rfl
         refine wpAnyIn_take (i := 3) (oi := ⟨some 50, _, _, _, _, _⟩) (v := ?_) rfl rfl (by kernel_rfl) (by kernel_rfl) (by kernel_rfl) (fun _ _ _ h => h) ⟨Or.inl ⟨by rfl, ?_⟩, fun _ => rfl⟩ ?_
         rotate_left
         ·intro w; go_simp <;> with_reducible rfl
         refine wpAnyIn_take (i := 5) (oi := ⟨some 52, _, _, _, _, _⟩) (v := ?_) rfl rfl (by kernel_rfl) (by kernel_rfl) (by kernel_rfl) (fun _ _ _ h => h) ⟨Or.inl ⟨by rfl, ?_⟩, fun _ => rfl⟩ ?_
         rotate_left
         ·intro w; go_simp <;> with_reducible rfl
         refine wpAnyIn_take (i := 6) (oi := ⟨some 53, _, _, _, _, _⟩) (v := ?_) rfl rfl (by kernel_rfl) (by kernel_rfl) (by kernel_rfl) (fun _ _ _ h => h) ⟨Or.inl ⟨by rfl, ?_⟩, fun _ => rfl⟩ ?_
         rotate_left
         ·intro w; go_simp <;> with_reducible rfl
         refine wpAnyIn_take (i := 7) (oi := ⟨some 54, _, _, _, _, _⟩) (v := ?_) rfl rfl (by kernel_rfl) (by kernel_rfl) (by kernel_rfl) (fun _ _ _ h => h) ⟨Or.inl ⟨by rfl, ?_⟩, fun _ => rfl⟩ ?_
         rotate_left
         ·intro w; go_simp <;> with_reducible rfl
         refine wpAnyIn_take (i := 10) (oi := ⟨some 57, _, _, _, _, _⟩) (v := ?_) rfl rfl (by kernel_rfl) (by kernel_rfl) (by kernel_rfl) (fun _ _ _ h => h) ⟨Or.inl ⟨by rfl, ?_⟩, fun _ => rfl⟩ ?_
         rotate_left
         ·intro w; go_simp <;> with_reducible rfl
         refine wpAnyIn_ready (rs := [0, 4]) (by kernel_rfl) (by simp) ?_
         refine AllReadyIn.cons rfl (fun K hK => ?_) ?_
         ·go_simp
          first | refine hK _ _ ?_ | refine ⟨trivial, hK _ _ ?_⟩ | refine ⟨fun _ _ => trivial, hK _ _ ?_⟩
          clear hK K
          refine wpAnyIn_ready (rs := [4]) (by kernel_rfl) (by simp) ?_
          refine AllReadyIn.cons rfl (fun K hK => ?_) AllReadyIn.nil
          go_simp
          first | refine hK _ _ ?_ | refine ⟨trivial, hK _ _ ?_⟩ | refine ⟨fun _ _ => trivial, hK _ _ ?_⟩
          clear hK K
          refine wpAnyIn_take (i := 8) (oi := ⟨some 55, _, _, _, _, _⟩) (v := ?_) rfl rfl (by kernel_rfl) (by kernel_rfl) (by kernel_rfl) (fun _ _ _ h => h) ⟨Or.inl ⟨by rfl, ?_⟩, fun _ => rfl⟩ ?_
          rotate_left
          ·intro w; go_simp <;> with_reducible rfl
          refine wpAnyIn_ready (rs := [9]) (by kernel_rfl) (by simp) ?_
          refine AllReadyIn.cons rfl (fun K hK => ?_) AllReadyIn.nil
          go_simp
          first | refine hK _ _ ?_ | refine ⟨trivial, hK _ _ ?_⟩ | refine ⟨fun _ _ => trivial, hK _ _ ?_⟩
          clear hK K
          refine wpAnyIn_take (i := 11) (oi := ⟨some 58, _, _, _, _, _⟩) (v := ?_) rfl rfl (by kernel_rfl) (by kernel_rfl) (by kernel_rfl) (fun _ _ _ h => h) ⟨Or.inl ⟨by rfl, ?_⟩, fun _ => rfl⟩ ?_
          rotate_left
          ·intro w; go_simp <;> with_reducible rfl
          refine wpAnyIn_take (i := 12) (oi := ⟨some 59, _, _, _, _, _⟩) (v := ?_) rfl rfl (by kernel_rfl) (by kernel_rfl) (by kernel_rfl) (fun _ _ _ h => h) ⟨Or.inl ⟨by rfl, ?_⟩, fun _ => rfl⟩ ?_
          rotate_left
          ·intro w; go_simp <;> with_reducible rfl
          refine wpAnyIn_ready (rs := [13]) (by kernel_rfl) (by simp) ?_
          refine AllReadyIn.cons rfl (fun K hK => ?_) AllReadyIn.nil
          go_simp
          first | refine hK _ _ ?_ | refine ⟨trivial, hK _ _ ?_⟩ | refine ⟨fun _ _ => trivial, hK _ _ ?_⟩
          clear hK K
          refine wpAnyIn_done (by kernel_rfl) ?_ _
          generalize (wr.setCell ⟨a + 1, f + k, none⟩ (.int .i64 x)).drew = wz at *
          gi_wp2
          refine ⟨?_, by simp [RowKit.intOf]; omega⟩
          (repeat apply Exists.intro)
          exact ⟨fin.out, rfl⟩
         refine AllReadyIn.cons rfl (fun K hK => ?_) AllReadyIn.nil
         go_simp
         first | refine hK _ _ ?_ | refine ⟨trivial, hK _ _ ?_⟩ | refine ⟨fun _ _ => trivial, hK _ _ ?_⟩
         clear hK K
         refine wpAnyIn_take (i := 8) (oi := ⟨some 55, _, _, _, _, _⟩) (v := ?_) rfl rfl (by kernel_rfl) (by kernel_rfl) (by kernel_rfl) (fun _ _ _ h => h) ⟨Or.inl ⟨by rfl, ?_⟩, fun _ => rfl⟩ ?_
         rotate_left
         ·intro w; go_simp <;> with_reducible rfl
         refine wpAnyIn_ready (rs := [0, 9]) (by kernel_rfl) (by simp) ?_
         refine AllReadyIn.cons rfl (fun K hK => ?_) ?_
         ·go_simp
          first | refine hK _ _ ?_ | refine ⟨trivial, hK _ _ ?_⟩ | refine ⟨fun _ _ => trivial, hK _ _ ?_⟩
          clear hK K
          refine wpAnyIn_ready (rs := [9]) (by kernel_rfl) (by simp) ?_
          refine AllReadyIn.cons rfl (fun K hK => ?_) AllReadyIn.nil
          go_simp
          first | refine hK _ _ ?_ | refine ⟨trivial, hK _ _ ?_⟩ | refine ⟨fun _ _ => trivial, hK _ _ ?_⟩
          clear hK K
          refine wpAnyIn_take (i := 11) (oi := ⟨some 58, _, _, _, _, _⟩) (v := ?_) rfl rfl (by kernel_rfl) (by kernel_rfl) (by kernel_rfl) (fun _ _ _ h => h) ⟨Or.inl ⟨by rfl, ?_⟩, fun _ => rfl⟩ ?_
          rotate_left
          ·intro w; go_simp <;> with_reducible rfl
          refine wpAnyIn_take (i := 12) (oi := ⟨some 59, _, _, _, _, _⟩) (v := ?_) rfl rfl (by kernel_rfl) (by kernel_rfl) (by kernel_rfl) (fun _ _ _ h => h) ⟨Or.inl ⟨by rfl, ?_⟩, fun _ => rfl⟩ ?_
          rotate_left
          ·intro w; go_simp <;> with_reducible rfl
          refine wpAnyIn_ready (rs := [13]) (by kernel_rfl) (by simp) ?_
          refine AllReadyIn.cons rfl (fun K hK => ?_) AllReadyIn.nil
          go_simp
          first | refine hK _ _ ?_ | refine ⟨trivial, hK _ _ ?_⟩ | refine ⟨fun _ _ => trivial, hK _ _ ?_⟩
          clear hK K
          refine wpAnyIn_done (by kernel_rfl) ?_ _
          generalize (wr.setCell ⟨a + 1, f + k, none⟩ (.int .i64 x)).drew = wz at *
          gi_wp2
          refine ⟨?_, by simp [RowKit.intOf]; omega⟩
          (repeat apply Exists.intro)
          exact ⟨fin.out, rfl⟩
         refine AllReadyIn.cons rfl (fun K hK => ?_) AllReadyIn.nil
         go_simp
         first | refine hK _ _ ?_ | refine ⟨trivial, hK _ _ ?_⟩ | refine ⟨fun _ _ => trivial, hK _ _ ?_⟩
         clear hK K
         refine wpAnyIn_take (i := 11) (oi := ⟨some 58, _, _, _, _, _⟩) (v := ?_) rfl rfl (by kernel_rfl) (by kernel_rfl) (by kernel_rfl) (fun _ _ _ h => h) ⟨Or.inl ⟨by rfl, ?_⟩, fun _ => rfl⟩ ?_
         rotate_left
         ·intro w; go_simp <;> with_reducible rfl
         refine wpAnyIn_ready (rs := [0]) (by kernel_rfl) (by simp) ?_
         refine AllReadyIn.cons rfl (fun K hK => ?_) AllReadyIn.nil
         go_simp
         first | refine hK _ _ ?_ | refine ⟨trivial, hK _ _ ?_⟩ | refine ⟨fun _ _ => trivial, hK _ _ ?_⟩
         clear hK K
         refine wpAnyIn_take (i := 12) (oi := ⟨some 59, _, _, _, _, _⟩) (v := ?_) rfl rfl (by kernel_rfl) (by kernel_rfl) (by kernel_rfl) (fun _ _ _ h => h) ⟨Or.inl ⟨by rfl, ?_⟩, fun _ => rfl⟩ ?_
         rotate_left
         ·intro w; go_simp <;> with_reducible rfl
         refine wpAnyIn_ready (rs := [13]) (by kernel_rfl) (by simp) ?_
         refine AllReadyIn.cons rfl (fun K hK => ?_) AllReadyIn.nil
         go_simp
         first | refine hK _ _ ?_ | refine ⟨trivial, hK _ _ ?_⟩ | refine ⟨fun _ _ => trivial, hK _ _ ?_⟩
         clear hK K
         refine wpAnyIn_done (by kernel_rfl) ?_ _
         generalize (wr.setCell ⟨a + 1, f + k, none⟩ (.int .i64 x)).drew = wz at *
         gi_wp2
         refine ⟨?_, by simp [RowKit.intOf]; omega⟩
         (repeat apply Exists.intro)
         exact ⟨fin.out, rfl⟩
         -- end of the orders
        ·obtain rfl : k = p.nums.length := by omega
         gi_wp2
         refine ⟨⟨f + 1, by omega, hit7, by rw [hst.out]; exact hat7, hg7, hsz7⟩, ?_⟩
         rw [iterPos_of hit7, iterPos_of hit]; omega
    ·obtain rfl : f = D.size := by omega
     have hnx := fun ty => next_end (P := Tryz.prog) hit ty (by omega)
     have hap : onePat (dotted lw) p A0 D.size = allPats (dotted lw) ((pre ++ [(p, pu, pc)]).map Prod.fst) := by
      rw [List.map_append, List.map_cons, List.map_nil, allPats_snoc, hA0, hdl]
     rw [hap] at hat
     have hBr : Below w.heap.size w wr := h5.grown hg h5.size (fun j e => by cases e; omega)
     gi_wp2
     exact ⟨⟨hg.size, fun j o hj ho _ => (hg.block j (Array.getElem?_eq_some_iff.1 ho).1 (by simp; omega)).trans ho⟩, ⟨hR.below hBr, by omega⟩, (hg.block a (by omega) (by simp)).trans h1, hat, (hg.block (a + 2) (by omega) (by simp)).trans h3, by omega, hBr⟩
  case done =>
   rintro Dl xs W hDl2 hS ⟨h1, h2, h3, h4, h5⟩ hR' hK
   rw [hS] at h2
   have hs0 := cell_blk h3 (i := 0) rfl
   have kp := Kept.putObj (B := a + 3) (.deferred none) (by omega) hK rfl
   have hB5 := kp.below (n₀ := w.heap.size) (w0 := w) (by omega) (Nat.le_refl _) h5
   have h2k := kp.same _ _ h2 (.inl rfl)
   clear hc1 hc2 a1 a2 a3
   gi_wp2
   refine leave1 (fn := Tryz.f125) hK (fun _ _ => results_tmp rfl _ _ _) ⟨_, rfl, ?_, hB5⟩
   have hnl : (numsOf lw).length = s.size - 1 := by rw [numsOf_len (by omega), hll]
   have := Sl.mk (w := W.putObj Dl (.deferred none)) (k := 1) (enc := encI) (l := numsOf lw) (b := a + 1) (o := 2) (cap := s.size + 1) (by omega) (by unfold maxLen; omega) (fun i x hi => ?_)
   ·rw [hnl] at this; exact this
   ·intro j v hv
    have hj : j = 0 := by
     have := (List.getElem?_eq_some_iff.1 hv).1
     simp [encI] at this; exact this
    subst hj
    simp only [encI, List.getElem?_cons_zero, Option.some.injEq] at hv
    subst hv
    refine cell_blk h2k ?_
    unfold numsOf at hi
    rw [List.getElem?_take] at hi
    split at hi
    ·rw [List.getElem?_drop] at hi
     simp only [atVals, Nat.mul_one, Nat.add_zero, List.getElem?_toArray, List.getElem?_map, hi, Option.map_some]
    ·cases hi
  case stop =>
   rintro D c pre W _ _ h _
   exact h.elim
 ·obtain ⟨x, hx, hy⟩ : ∃ x : ByteArray, SO = #[.string x, .bool false] ∧ SM = none := by
   cases b
   ·exact ⟨_, hso, hsm⟩
   ·have hbf : (decide (2 ≤ s.size) && decide (s.size ≤ 60)) = false := by
     rw [Bool.eq_false_iff]; intro h; simp at h; exact hok ⟨rfl, h⟩
    rw [hbf] at hso
    exact ⟨_, hso, by rw [hsm, if_neg (by rintro ⟨-, h1⟩; exact hok ⟨rfl, h1⟩)]⟩
  subst hx hy
  dsimp only at hnl
  subst hnl
  clear hso hsm hok hlow
  gi_wp2_with (fail)
  refine ⟨trivial, rfl, (callsIn_wide.2 hc1.out).mono ?_⟩
  rintro e w1 ⟨rfl, hB1⟩
  gi_wp2
  refine ⟨_, results_tmp (fn := Tryz.f125) rfl _ _ _, _, rfl, .inl ⟨rfl, rfl⟩, hB1⟩
end Go.Proofs.YtempicociampoaaGreatDoor
namespace Go.Proofs.YtempicociampoaaGreatDoor
open Go.RowKit Go.Shelf
attribute [local go_sem] Oper.semAt_some

theorem dig_numbersL (s : List UInt8) : dig (numbersL s) := by
 unfold numbersL
 split
 ·intro x hx; cases hx
 ·exact dig_numsOf _
theorem numbersL_len (s : List UInt8) : (numbersL s).length ≤ 59 := by
 unfold numbersL smallL
 split
 ·simp
 ·rename_i lw h
  split at h
  ·rename_i hc
   cases h
   rw [numsOf_len (by rw [List.length_map]; omega), List.length_map]
   omega
  ·cases h

theorem owns_down {W : World} {b b' : Nat} {e : TypeId} {size : Nat} {v : Value} {n : Nat} {xs : List Value} (hb : b' ≤ b) (h : W.ownsRow b e size v n xs) : W.ownsRow b' e size v n xs := by
 obtain ⟨h1, h2⟩ := h
 refine ⟨h1, ?_⟩
 rcases h2 with h2 | ⟨g, cap, cur, hv, hg, r⟩
 ·exact .inl h2
 ·exact .inr ⟨g, cap, cur, hv, Nat.le_trans hb hg, r⟩

set_option maxRecDepth 100000 in
set_option maxHeartbeats 4000000 in
theorem PointsO_any (s : ByteArray) (w : World) (hs : s.size ≤ 2000000) (hR : Asp w) :
  Calls Tryz.prog 121 #[.string s] w fun e w' => ∃ v, e = .returned v ∧ w'.ownsRow w.heap.size 3 1 v (pointsL (numbersL s.data.toList)).length ((pointsL (numbersL s.data.toList)).flatMap encI) ∧ Below w.heap.size w w' := by
 have hc1 := hid (Numbers_any s w hs hR)
 have hdg := dig_numbersL s.data.toList
 have hln := numbersL_len s.data.toList
 generalize numbersL s.data.toList = NL at *
 have hPL := hid (show pointsL NL = if NL.length + 1 < 5 then [] else pointsTo NL NL.length from rfl)
 generalize pointsL NL = PL at *
 obtain ⟨i0, hi, hz0, hz1, hz2⟩ := info_parts Tryz.infoI
 go_enter Tryz.func121, Tryz.ntmps121
 go_wp2_with (fail)
 refine hc1.out.mono ?_
 rintro e w1 ⟨v, rfl, hsl, hB1⟩
 obtain ⟨pu, cu, rfl, hu⟩ := hsl.shape
 by_cases hl5 : ((NL.length : Nat) : Int) + 1 < 5
 ·go_wp2_with (fail)
  go_ret
  refine ⟨_, rfl, ?_, hB1⟩
  rw [hPL.out, if_pos (by omega)]
  exact World.ownsRow_nil _ _ _ _
 ·replace hPL := hid (show PL = pointsTo NL NL.length by rw [hPL.out, if_neg (by omega)])
  have hne : NL ≠ [] := by rintro rfl; simp at hl5
  go_wp2_with (fail)
  go_loopw [5, 18] (fun v i wr => ∃ k : Nat, k ≤ NL.length ∧ i = .int .i64 k ∧ (∃ u, v = u ∧ wr.ownsRow w1.heap.size 3 1 u (pointsTo NL k).length ((pointsTo NL k).flatMap encI)) ∧ Below w1.heap.size w1 wr) (fun _ i _ => NL.length - (RowKit.intOf i).toNat)
  case atStart => exact ⟨0, Nat.zero_le _, rfl, ⟨_, rfl, World.ownsRow_nil _ _ _ _⟩, Below.refl _ _⟩
  case round =>
   obtain ⟨k, hk, rfl, ⟨_, rfl, hrow⟩, hB⟩ := hrel
   obtain ⟨pv, cv, rfl, hv1, hv2⟩ := owns_shape hrow
   unfold maxLen at hv2
   by_cases hkl : k < NL.length
   ·obtain ⟨nb, no, cap, e1, e2, e3, e4⟩ := hsl.open hne
    simp only [Value.slice.injEq] at e1
    obtain ⟨rfl, -, rfl⟩ := e1
    have hck := rangeAt_one (e4 k NL[k] (List.getElem?_eq_getElem hkl))
    rw [Nat.mul_one] at hck
    have hnlt : nb < w1.heap.size := by
     cases h5 : w1.heap[nb]? with
     | none => simp [World.cell?, h5] at hck
     | some o => exact (Array.getElem?_eq_some_iff.1 h5).1
    have hckr := (hB.cell (p := ⟨nb, no + k, none⟩) hnlt).trans hck
    have hnd := hdg NL[k] (List.getElem_mem _)
    have hpt : pointsTo NL (k + 1) = pointsTo NL k ++ (if NL[k] % 2 = 1 ∧ 2 ≤ k + 1 ∧ k + 1 + 3 ≤ NL.length + 1 then [((k : Int) + 1)] else []) := by
     rw [pointsTo, List.getD_eq_getElem?_getD, List.getElem?_eq_getElem hkl]; rfl
    have hpl := pointsTo_len NL k
    replace hpt := hid hpt
    clear hck e4
    generalize NL[k] = n at *
    by_cases c1 : n % 2 = 1
    ·by_cases c2 : (2 : Int) ≤ k + 1
     ·by_cases c3 : (3 : Int) ≤ NL.length + 1 - (k + 1)
      ·have hq := hid (show pointsTo NL (k + 1) = pointsTo NL k ++ [(k : Int) + 1] by rw [hpt.out, if_pos ⟨c1, by omega, by omega⟩])
       go_wp2_with (at_builtin; go_must (refine wpList_append_own _ rfl _ _ 50 rfl w1.heap.size 3 i0 (.int .i64 0) 1 8 Tryz.underlying50 hi hz0 hz1 hz2 rfl (by decide) _ (pointsTo NL k).length _ rfl (hrow.alloc _) ⟨_, 0, none⟩ 1 1 [.int .i64 ((k : Int) + 1)] rfl rfl (cells_new _ _ _) (by simp [Value.oneCell']) (by unfold maxLen; omega) (by omega) (by have := hB.size; simp; omega) ?_; intro v' w2 hown' hgrow _))
       have hB2 := hB.alloc hB.size (.cells #[.int .i64 ((k : Int) + 1)] 3)
       refine ⟨⟨k + 1, by omega, by go_num, ⟨_, rfl, ?_⟩, hB2.grown hgrow hB2.size (fun j e => own_base hrow e)⟩, by simp [RowKit.intOf]; omega⟩
       rw [hq.out]; simpa [encI] using hown'
      ·have hq : pointsTo NL (k + 1) = pointsTo NL k := by rw [hpt.out, if_neg (by omega), List.append_nil]
       replace hq := hid hq
       go_wp2_with (fail)
       exact ⟨⟨k + 1, by omega, by go_num, ⟨_, rfl, by rw [hq.out]; exact hrow⟩, hB⟩, by simp [RowKit.intOf]; omega⟩
     ·have hq : pointsTo NL (k + 1) = pointsTo NL k := by rw [hpt.out, if_neg (by omega), List.append_nil]
      replace hq := hid hq
      go_wp2_with (fail)
      exact ⟨⟨k + 1, by omega, by go_num, ⟨_, rfl, by rw [hq.out]; exact hrow⟩, hB⟩, by simp [RowKit.intOf]; omega⟩
    ·have hq : pointsTo NL (k + 1) = pointsTo NL k := by rw [hpt.out, if_neg (by omega), List.append_nil]
     replace hq := hid hq
     go_wp2_with (fail)
     exact ⟨⟨k + 1, by omega, by go_num, ⟨_, rfl, by rw [hq.out]; exact hrow⟩, hB⟩, by simp [RowKit.intOf]; omega⟩
   ·obtain rfl : k = NL.length := by omega
    have hsl2 := owns_down hB1.size hrow
    go_wp2_with (fail)
    go_ret
    refine ⟨_, rfl, ?_, hB1.trans (hB.mono hB1.size)⟩
    rw [hPL.out]
    exact hsl2

end Go.Proofs.YtempicociampoaaGreatDoor
