/- The walks of markup's word, good, Good. -/
import Derived.Test.YtgbfekimflnaiaaDoorMkD
import Derived.Test.YtgbfekimflnaiaaDoorItN
namespace Go.Proofs.YtgbfekimflnaiaaDoor
open Go.RowKit Go.Shelf Go.Lib

theorem has_byte (l : L8) (c : UInt8) : decide (0 ≤ Lib.indexByte l c) = decide (c ∈ l) := by
  have hge := Lib.indexByte_ge l c
  rw [Bool.eq_iff_iff, decide_eq_true_iff, decide_eq_true_iff]
  constructor
  · intro h
    obtain ⟨i, hi⟩ : ∃ i : Nat, Lib.indexByte l c = i := ⟨(Lib.indexByte l c).toNat, by omega⟩
    exact List.mem_of_getElem? (Lib.indexByte_some hi).1
  · intro h
    by_cases h1 : Lib.indexByte l c = -1
    · obtain ⟨k, hk⟩ := List.mem_iff_getElem?.1 h
      exact absurd hk (Lib.indexByte_none h1 k)
    · omega
theorem empty8 (s : ByteArray) : s.toList.isEmpty = decide (s.data.toList = []) := by
  rw [Lib.toList_data]
  cases s.data.toList <;> simp

set_option maxRecDepth 100000 in
set_option maxHeartbeats 2000000 in
theorem word_any (s : ByteArray) (w : World) (hs : s.size ≤ 1000000) (hT : Tabs w) :
    Calls Tryd.prog 44 #[.string s] w fun e w' => e = .returned (.bool (decide (goodW s.data.toList))) ∧ Below w.heap.size w w' := by
  have cP := hid (plain_any s 33 (by decide) w hs hT)
  have cC := hid (fun W => Tryd.strings_Contains_one s 32 W)
  simp only [has_byte] at cC
  have he := empty8 s
  have hg : decide (goodW s.data.toList) = (!(decide (s.data.toList = [])) && (decide (plainB 33 s.data.toList) && !(decide ((32 : UInt8) ∈ s.data.toList)))) := by
    unfold goodW
    rw [Bool.eq_iff_iff]; simp
  rw [hg]
  clear hg
  generalize decide (s.data.toList = []) = b1 at *
  generalize decide (plainB 33 s.data.toList) = b2 at *
  generalize decide ((32 : UInt8) ∈ s.data.toList) = b3 at *
  go_enter Tryd.func44, Tryd.ntmps44
  cases b1 with
  | true =>
    go_wp2_with (fail)
    go_ret
    exact ⟨rfl, Below.refl _ _⟩
  | false =>
    go_wp2_with (fail)
    refine cP.out.mono ?_
    rintro e w2 ⟨rfl, b⟩
    cases b2 with
    | false =>
      go_wp2_with (fail)
      go_ret
      exact ⟨rfl, b⟩
    | true =>
      go_wp2_with (fail)
      refine (cC.out _).mono ?_
      rintro e w3 ⟨rfl, hw3⟩
      obtain rfl : w2 = w3 := hw3.symm
      go_wp2_with (fail)
      go_ret
      exact ⟨by cases b3 <;> rfl, b⟩

/-- a part's words as bytes -/
def p8 (k : Int) (ws : List ByteArray) : P8 := (k, ws.map fun w => w.data.toList)
/-- a text's words -/
def textB1 : List ByteArray → Bool
  | [] => false
  | [x] => !(x.toList == [45, 45, 45])
  | x :: _ => !(x.toList == [61]) && !(x.toList == [45])
/-- the kinds' own law -/
def kindB (k : Int) (ws : List ByteArray) : Bool :=
  if k = 4 then ws.isEmpty else if k = 2 ∨ k = 3 then !ws.isEmpty else if k = 1 then textB1 ws else false
def goodB (k : Int) (ws : List ByteArray) : Bool := (ws.all fun x => decide (goodW x.data.toList)) && kindB k ws
theorem goodB_eq (k : Int) (ws : List ByteArray) : goodB k ws = decide (goodP (p8 k ws)) := by
  rw [Bool.eq_iff_iff, decide_eq_true_iff]
  unfold goodB goodP p8
  rw [Bool.and_eq_true, List.all_eq_true]
  refine and_congr ?_ ?_
  · simp
  · unfold kindB
    dsimp only
    by_cases h4 : k = 4
    · subst h4; simp
    · by_cases h23 : k = 2 ∨ k = 3
      · rcases h23 with rfl | rfl <;> simp
      · by_cases h1 : k = 1
        · subst h1
          cases ws with
          | nil => simp [textB1]
          | cons x r =>
            cases r with
            | nil => simp [Lib.toList_data, textB1]
            | cons y r => simp [Lib.toList_data, textB1]
        · rw [if_neg h4, if_neg h23, if_neg h1]
          simp only [Bool.false_eq_true, false_iff]
          rintro (⟨h, -⟩ | ⟨h, -⟩ | ⟨h, -⟩)
          · exact h4 h
          · exact h23 h
          · exact h1 h

set_option maxRecDepth 100000 in
set_option maxHeartbeats 4000000 in
theorem good_any (k : Int) (wv : Value) (ws : List ByteArray) (w : World) (hsl : Sl w 1 encT wv ws) (hsz : ∀ s ∈ ws, s.size ≤ 1000000) (hT : Tabs w) :
    Calls Tryd.prog 31 #[.agg #[.int .i64 k, wv]] w fun e w' => e = .returned (.bool (goodB k ws)) ∧ Below w.heap.size w w' := by
  obtain ⟨pw, cw, rfl, hwx⟩ := hsl.shape
  unfold maxLen at hwx
  obtain ⟨W1, hW1⟩ : ∃ V, w.alloc (.cells #[.int .i64 k, .slice pw ws.length cw] 41) = V := ⟨_, rfl⟩
  have hn : W1.heap[w.heap.size]? = some (.cells #[.int .i64 k, .slice pw ws.length cw] 41 (0, 0)) := by rw [← hW1]; exact World.alloc_heap_new w _
  have hB1 : Below w.heap.size w W1 := by rw [← hW1]; exact (Below.refl _ w).alloc (Nat.le_refl _) _
  have s1 := (Kept.of_below hB1 0).sl hsl
  have T1 := hT.below hB1
  have c0 := cell_blk hn (i := 0) rfl
  have c1 := cell_blk hn (i := 1) rfl
  have hl1 := (Array.getElem?_eq_some_iff.1 hn).1
  have hgb : goodB k ws = ((ws.all fun x => decide (goodW x.data.toList)) && kindB k ws) := rfl
  replace hgb := hid hgb
  replace hn := hid hn
  replace T1 := hid T1
  clear hT hsl
  go_enter Tryd.func31, Tryd.ntmps31
  go_wp2_with (fail)
  go_loopw [4, 8] (fun _ i wr => ∃ j : Nat, j ≤ ws.length ∧ i = .int .i64 j ∧ ((ws.take j).all fun x => decide (goodW x.data.toList)) = true ∧ Below W1.heap.size W1 wr) (fun _ i _ => ws.length - (RowKit.intOf i).toNat)
  case atStart => exact ⟨0, Nat.zero_le _, rfl, rfl, Below.refl _ _⟩
  case round =>
    obtain ⟨j, hj, rfl, hall, hC⟩ := hrel
    have hB := hB1.trans (hC.mono hB1.size)
    by_cases hjl : j < ws.length
    · have hjI : (j : Int) < (ws.length : Int) := by omega
      obtain ⟨nb, no, cap', he, h4, h5, h6⟩ := s1.open (by rintro rfl; simp at hjl)
      simp only [Value.slice.injEq] at he
      obtain ⟨rfl, -, rfl⟩ := he
      have hc := rangeAt_one ((Kept.of_below hC 0).range (h6 j ws[j] (List.getElem?_eq_getElem hjl)))
      simp only [Nat.mul_one] at hc
      have hxs := hsz ws[j] (List.getElem_mem _)
      have hmem := List.getElem_mem hjl
      have htk : ((ws.take (j + 1)).all fun x => decide (goodW x.data.toList)) = (((ws.take j).all fun x => decide (goodW x.data.toList)) && decide (goodW ws[j].data.toList)) := by
        rw [List.take_succ_eq_append_getElem hjl, List.all_append]; simp
      have cW := hid (word_any ws[j] wr hxs (T1.out.below hC))
      have hno : decide (goodW ws[j].data.toList) = false → goodB k ws = false := fun h => by
        rw [hgb.out]
        have : (ws.all fun x => decide (goodW x.data.toList)) = false := by
          rw [List.all_eq_false]
          exact ⟨ws[j], hmem, by simpa using h⟩
        rw [this]; rfl
      rw [hall] at htk
      generalize decide (goodW ws[j].data.toList) = gw at *
      generalize ws[j] = x at *
      replace htk := hid htk
      replace hno := hid hno
      replace hgb := hid hgb
      clear h6 hmem
      go_wp2_with (fail)
      refine cW.out.mono ?_
      rintro e w2 ⟨rfl, b2⟩
      have hC2 := hC.trans (b2.mono hC.size)
      cases gw with
      | false =>
        go_wp2_with (fail)
        go_ret
        exact ⟨by rw [hno.out trivial]; rfl, hB1.trans (hC2.mono hB1.size)⟩
      | true =>
        go_wp2_with (fail)
        refine ⟨⟨j + 1, by omega, by go_num, by rw [htk.out]; rfl, hC2⟩, by simp [RowKit.intOf]; omega⟩
    · obtain rfl : j = ws.length := by omega
      rw [List.take_length] at hall
      rw [hall, Bool.true_and] at hgb
      have hm := (hC.block w.heap.size hl1).trans hn.out
      have d0 := cell_blk hm (i := 0) rfl
      have d1 := cell_blk hm (i := 1) rfl
      have hkb : kindB k ws = if k = 4 then ws.isEmpty else if k = 2 ∨ k = 3 then !ws.isEmpty else if k = 1 then textB1 ws else false := rfl
      have e0 : ((ws.length : Int) == 0) = ws.isEmpty := by cases ws <;> simp; omega
      have e1 : decide ((0 : Int) < (ws.length : Int)) = !ws.isEmpty := by cases ws <;> simp
      rw [hkb] at hgb
      clear hkb hall hn
      replace hgb := hid hgb
      have hBC := hB1.trans (hC.mono hB1.size)
      by_cases k4 : k = 4
      · subst k4
        go_wp2_with (fail)
        go_ret
        exact ⟨by rw [hgb.out]; cases ws <;> simp, hBC⟩
      · by_cases k2 : k = 2
        · subst k2
          go_wp2_with (fail)
          go_ret
          exact ⟨by rw [hgb.out]; cases ws <;> simp, hBC⟩
        · by_cases k3 : k = 3
          · subst k3
            go_wp2_with (fail)
            go_ret
            exact ⟨by rw [hgb.out]; cases ws <;> simp, hBC⟩
          · by_cases k1 : k = 1
            · subst k1
              clear e0 e1
              have s2 := (Kept.of_below hC 0).sl s1
              cases ws with
              | nil =>
                go_wp2_with (fail)
                go_ret
                exact ⟨by rw [hgb.out]; simp [textB1], hBC⟩
              | cons x r =>
                obtain ⟨nb, no, cap', he, h4, h5, h6⟩ := s2.open (by simp)
                simp only [Value.slice.injEq] at he
                obtain ⟨rfl, -, rfl⟩ := he
                have hc := rangeAt_one (h6 0 x rfl)
                simp only [Nat.zero_mul, Nat.add_zero] at hc
                cases r with
                | nil =>
                  go_wp2_with (fail)
                  go_ret
                  exact ⟨by rw [hgb.out]; simp [textB1], hBC⟩
                | cons y r =>
                  have hr2 : ((x :: y :: r).length : Int) = r.length + 2 := by simp; omega
                  obtain ⟨g1, hg1⟩ : ∃ g, (x.toList == [61]) = g := ⟨_, rfl⟩
                  have hg2 : kindB 1 (x :: y :: r) = (!g1 && !(x.toList == [45])) := by rw [← hg1]; simp [kindB, textB1]
                  have hgo := hgb.out.trans (show (if (1 : Int) = 4 then (x :: y :: r).isEmpty else if (1 : Int) = 2 ∨ (1 : Int) = 3 then !(x :: y :: r).isEmpty else if (1 : Int) = 1 then textB1 (x :: y :: r) else false) = (!g1 && !(x.toList == [45])) from hg2)
                  replace hgo := hid hgo
                  clear hgb hg2 k2 k3 k4 hsz s1 s2 c0 c1 h6 hr2 hjl hj
                  have hz1 : (2 : Int) ≤ (x :: y :: r).length := by simp; omega
                  generalize (x :: y :: r).length = n at *
                  have hn0 : ((n : Int) == 0) = false := beq_eq_false_iff_ne.2 (by omega)
                  have hn1 : ((n : Int) == 1) = false := beq_eq_false_iff_ne.2 (by omega)
                  have hn2 : (0 : Int) < n := by omega
                  cases g1 with
                  | true =>
                    go_wp2_with (fail)
                    go_ret
                    exact ⟨by rw [hgo.out]; rfl, hBC⟩
                  | false =>
                    go_wp2_with (fail)
                    go_ret
                    exact ⟨by rw [hgo.out]; rfl, hBC⟩
            · go_wp2_with (fail)
              go_ret
              exact ⟨by rw [hgb.out]; simp [k4, k2, k3, k1], hBC⟩
end Go.Proofs.YtgbfekimflnaiaaDoor
