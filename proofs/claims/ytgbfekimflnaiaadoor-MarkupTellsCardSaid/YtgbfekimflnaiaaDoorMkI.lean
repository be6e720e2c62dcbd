/- The walks of markup's line and Source. -/
import Derived.Test.YtgbfekimflnaiaaDoorMkH
namespace Go.Proofs.YtgbfekimflnaiaaDoor
open Go.RowKit Go.Shelf Go.Lib

theorem join_joinB (sep : L8) : ∀ ws : List L8, Lib.join ws sep = joinB sep ws := by
  intro ws
  induction ws with
  | nil => rfl
  | cons x r ih =>
    cases r with
    | nil => simp [Lib.join, joinB, List.intercalate]
    | cons y t =>
      have e : Lib.join (x :: y :: t) sep = x ++ sep ++ Lib.join (y :: t) sep := by simp [Lib.join, List.intercalate, List.append_assoc]
      rw [e, ih]; rfl

/-- Join of any row of texts -/
theorem Join_sl (v : Value) (ws : List ByteArray) (sep : ByteArray) (w : World) (hsl : Sl w 1 encT v ws) (hn : ws.length ≤ 140737488355328) (hlen : (joinB sep.data.toList (ws.map fun x => x.data.toList)).length ≤ 140737488355328) :
    Calls Tryd.prog 28 #[v, .string sep] w fun e w' => ∃ J : ByteArray, e = .returned (.string J) ∧ J.data.toList = joinB sep.data.toList (ws.map fun x => x.data.toList) ∧ Below w.heap.size w w' := by
  by_cases h0 : ws = []
  · subst h0
    obtain ⟨p, c, rfl, -⟩ := hsl.shape
    refine (Tryd.strings_Join_none p c sep w).mono ?_
    rintro e w' ⟨rfl, rfl⟩
    exact ⟨_, rfl, rfl, Below.refl _ _⟩
  · obtain ⟨b, o, c, rfl, h1, h2, h3⟩ := hsl.open h0
    have hc : ∀ (j : Nat) x, ws[j]? = some x → w.cell? ⟨b, o + j, none⟩ = some (.string x) := fun j x hj => by
      have := rangeAt_one (h3 j x hj)
      rwa [Nat.mul_one] at this
    have hb : b < w.heap.size := by
      obtain ⟨x, r, rfl⟩ := List.exists_cons_of_ne_nil h0
      have := hc 0 x rfl
      refine Nat.lt_of_not_le fun hb => ?_
      rw [World.cell?, Array.getElem?_eq_none hb] at this
      cases this
    refine (Tryd.strings_Join b o c ws sep w hc hb hn h1 (by rw [join_joinB]; exact hlen)).mono ?_
    rintro e w' ⟨rfl, hB⟩
    exact ⟨_, rfl, by rw [join_joinB], hB⟩

set_option maxRecDepth 100000 in
set_option maxHeartbeats 4000000 in
theorem line_any (k : Int) (wv : Value) (ws : List ByteArray) (w : World) (hsl : Sl w 1 encT wv ws) (hn : ws.length ≤ 1000000) (hlen : (joinB [32] (ws.map fun x => x.data.toList)).length ≤ 1000000) :
    Calls Tryd.prog 27 #[.agg #[.int .i64 k, wv]] w fun e w' => ∃ x : ByteArray, e = .returned (.string x) ∧ x.data.toList = lineP (p8 k ws) ∧ Below w.heap.size w w' := by
  obtain ⟨pw, cw, rfl, hwx⟩ := hsl.shape
  obtain ⟨W1, hW1⟩ : ∃ V, w.alloc (.cells #[.int .i64 k, .slice pw ws.length cw] 41) = V := ⟨_, rfl⟩
  have hn1 : W1.heap[w.heap.size]? = some (.cells #[.int .i64 k, .slice pw ws.length cw] 41 (0, 0)) := by rw [← hW1]; exact World.alloc_heap_new w _
  have hB1 : Below w.heap.size w W1 := by rw [← hW1]; exact (Below.refl _ w).alloc (Nat.le_refl _) _
  have cJ := hid (Join_sl (.slice pw ws.length cw) ws ⟨#[32]⟩ W1 ((Kept.of_below hB1 0).sl hsl) (by omega) (Nat.le_trans hlen (by omega)))
  have c1 := cell_blk hn1 (i := 1) rfl
  have hz1 : w.heap.size < W1.heap.size := (Array.getElem?_eq_some_iff.1 hn1).1
  clear hsl
  go_enter Tryd.func27, Tryd.ntmps27
  go_wp2_with (fail)
  refine cJ.out.mono ?_
  rintro e w2 ⟨J, rfl, hJ, b2⟩
  have c0 := cell_blk ((b2.block _ hz1).trans hn1) (i := 0) rfl
  have hB2 := hB1.trans (b2.mono hB1.size)
  have hline : lineP (p8 k ws) = if k = 2 then [61, 32] ++ J.data.toList else if k = 3 then [45, 32] ++ J.data.toList else if k = 4 then [45, 45, 45] else J.data.toList := by rw [hJ]; rfl
  have hJs : J.size ≤ 1000000 := by rw [← size8, hJ]; exact hlen
  replace hline := hid hline
  clear c1 hJ cJ
  by_cases k2 : k = 2
  · subst k2
    go_wp2_with (fail)
    go_ret
    exact ⟨_, rfl, by rw [hline.out]; simp [ByteArray.data_append], hB2⟩
  · have k2b : (k == 2) = false := by simp [k2]
    by_cases k3 : k = 3
    · subst k3
      go_wp2_with (fail)
      go_ret
      exact ⟨_, rfl, by rw [hline.out]; simp [ByteArray.data_append], hB2⟩
    · have k3b : (k == 3) = false := by simp [k3]
      by_cases k4 : k = 4
      · subst k4
        go_wp2_with (fail)
        go_ret
        exact ⟨_, rfl, by rw [hline.out]; simp, hB2⟩
      · have k4b : (k == 4) = false := by simp [k4]
        go_wp2_with (fail)
        go_ret
        exact ⟨_, rfl, by rw [hline.out]; simp [k2, k3, k4], hB2⟩

/-- what Source answers -/
def sourceR (L : List Pt) : L8 × Int := if allG L = true ∧ (sourceL (L.map pt8)).length ≤ 240 then (sourceL (L.map pt8), 0) else ([], 11)

set_option maxRecDepth 100000 in
set_option maxHeartbeats 2000000 in
theorem Source_any (v : Value) (L : List Pt) (w : World) (hsl : Sl w 2 encPt v L) (hws : ∀ x ∈ L, Sl w 1 encT x.2.1 x.2.2) (hsz : ∀ x ∈ L, ∀ s ∈ x.2.2, s.size ≤ 1000000) (hL : L.length ≤ 1000)
    (hwl : ∀ x ∈ L, x.2.2.length ≤ 1000000 ∧ (joinB [32] (x.2.2.map fun s => s.data.toList)).length ≤ 1000000) (hsrc : (sourceL (L.map pt8)).length ≤ 140737488355328) (hT : Tabs w) :
    Calls Tryd.prog 13 #[v] w fun e w' => ∃ (x : ByteArray) (n : Int), e = .returned (.tuple #[.string x, .int .i64 n]) ∧ (x.data.toList, n) = sourceR L ∧ Below w.heap.size w w' := by
  have cG := hid (Good_any v L w hsl hws hsz hT)
  obtain ⟨p, cap, rfl, hmx⟩ := hsl.shape
  unfold maxLen at hmx
  have hR : sourceR L = if allG L = true ∧ (sourceL (L.map pt8)).length ≤ 240 then (sourceL (L.map pt8), 0) else ([], 11) := rfl
  obtain ⟨g, hg⟩ : ∃ g, allG L = g := ⟨_, rfl⟩
  rw [hg] at cG hR
  obtain ⟨i0, hi, hz0, hz1, hz2⟩ := info_parts Tryd.infoS
  go_enter Tryd.func13, Tryd.ntmps13
  go_wp2_with (fail)
  refine cG.out.mono ?_
  rintro e w1 ⟨rfl, b1⟩
  cases g with
  | false =>
    rw [if_neg (by simp)] at hR
    replace hR := hid hR
    go_wp2_with (fail)
    go_ret2
    exact ⟨_, _, rfl, by rw [hR.out], b1⟩
  | true =>
    go_wp2_with (fail)
    go_loopw [4, 13] (fun r i wr => ∃ (j : Nat) (xs : List ByteArray), j ≤ L.length ∧ i = .int .i64 j ∧ xs.map (fun x => x.data.toList) = (L.take j).map (fun x => lineP (pt8 x)) ∧ (∃ u, r = u ∧ wr.ownsRow w.heap.size 9 1 u xs.length (xs.flatMap encT)) ∧ Below w.heap.size w wr) (fun _ i _ => L.length - (RowKit.intOf i).toNat)
    case atStart => exact ⟨0, [], Nat.zero_le _, rfl, rfl, ⟨_, rfl, World.ownsRow_nil _ _ _ _⟩, b1⟩
    case round =>
      obtain ⟨j, xs, hj, rfl, hxs, ⟨_, rfl, hrow⟩, hB⟩ := hrel
      have hxl : xs.length = j := by
        have := congrArg List.length hxs
        simp at this; omega
      subst hxl
      obtain ⟨pv, cv, rfl, hv1, hv2⟩ := owns_shape hrow
      have hzr := hB.size
      by_cases hjl : xs.length < L.length
      · have hjI : (xs.length : Int) < (L.length : Int) := by omega
        obtain ⟨nb, no, cap', he, h4, h5, h6⟩ := hsl.open (by rintro rfl; simp at hjl)
        simp only [Value.slice.injEq] at he
        obtain ⟨rfl, -, rfl⟩ := he
        have hx := (Kept.of_below hB 0).range (h6 xs.length L[xs.length] (List.getElem?_eq_getElem hjl))
        have x0 : wr.cell? ⟨nb, no + xs.length * 2, none⟩ = some (.int .i64 L[xs.length].1) := hx 0 _ rfl
        have x1 : wr.cell? ⟨nb, no + xs.length * 2 + 1, none⟩ = some L[xs.length].2.1 := hx 1 _ rfl
        have hmem := List.getElem_mem hjl
        have hs1 := (Kept.of_below hB 0).sl (hws _ hmem)
        obtain ⟨hl1, hl2⟩ := hwl _ hmem
        have htk : (L.take (xs.length + 1)).map (fun x => lineP (pt8 x)) = (L.take xs.length).map (fun x => lineP (pt8 x)) ++ [lineP (pt8 L[xs.length])] := by
          rw [List.take_succ_eq_append_getElem hjl, List.map_append]; rfl
        have hpt : pt8 L[xs.length] = p8 L[xs.length].1 L[xs.length].2.2 := rfl
        rw [hpt, ← hxs] at htk
        obtain ⟨pw, cw, hwv, -⟩ := hs1.shape
        rw [hwv] at x1 hs1
        generalize L[xs.length].2.2 = ws at *
        generalize L[xs.length].1 = kd at *
        obtain ⟨W3, hW3⟩ : ∃ V, wr.alloc (.cells #[.int .i64 kd, .slice pw ws.length cw] 41) = V := ⟨_, rfl⟩
        have hB3 : Below w.heap.size w W3 := by rw [← hW3]; exact hB.alloc hzr _
        have hk3 : Below wr.heap.size wr W3 := by rw [← hW3]; exact (Below.refl _ wr).alloc (Nat.le_refl _) _
        have hn3 : W3.heap[wr.heap.size]? = some (.cells #[.int .i64 kd, .slice pw ws.length cw] 41 (0, 0)) := by rw [← hW3]; exact World.alloc_heap_new wr _
        have d0 := cell_blk hn3 (i := 0) rfl
        have d1 := cell_blk hn3 (i := 1) rfl
        have cL := hid (line_any kd (.slice pw ws.length cw) ws W3 ((Kept.of_below hk3 0).sl hs1) hl1 hl2)
        have hrow3 := (Kept.of_below hk3 0).owns hrow
        have hz3 := hB3.size
        replace htk := hid htk
        clear h6 hmem hx hs1 hwv hrow hpt hxs
        go_wp2_with (fail)
        refine cL.out.mono ?_
        rintro e w4 ⟨x, rfl, hx, b4⟩
        have hrow4 := (Kept.of_below b4 0).owns hrow3
        have hB4 := hB3.trans (b4.mono hz3)
        have hz4 := hB4.size
        go_wp2_with (at_builtin; go_must (refine wpList_append_own _ rfl _ _ 37 rfl w.heap.size 9 i0 (.string ⟨#[]⟩) 1 16 Tryd.underlying37 hi hz0 hz1 hz2 rfl (by decide) _ xs.length _ rfl (hrow4.alloc _) ⟨_, 0, none⟩ 1 1 [.string x] rfl rfl (cells_newS _ _ _) (by simp [Value.oneCell']) (by unfold maxLen; omega) (by omega) (by simp; omega) ?_; intro v' w5 hown' hgrow _))
        go_roundw
        case rel =>
          refine ⟨xs.length + 1, xs ++ [x], by omega, by go_num, ?_, ⟨_, rfl, ?_⟩, (hB4.alloc hz4 _).grown hgrow (by simp; omega) (fun _ e => own_base hrow4 e)⟩
          · rw [htk.out, List.map_append, List.map_singleton, hx]
          · rw [List.length_append, List.flatMap_append]; exact hown'
        case measure => simp [RowKit.intOf]; omega
      · rw [show L.take xs.length = L from List.take_of_length_le (by omega)] at hxs
        have hsr : sourceL (L.map pt8) = joinB [10, 10] (xs.map fun x => x.data.toList) := by
          unfold sourceL; rw [hxs, List.map_map]; rfl
        rw [hsr] at hR hsrc
        have cJ := hid (Join_sl (.slice pv xs.length cv) xs ⟨#[10, 10]⟩ wr (sl_of_owns (fun _ _ => rfl) hrow) (by omega) hsrc)
        clear hxs
        go_wp2_with (fail)
        refine cJ.out.mono ?_
        rintro e w4 ⟨J, rfl, hJ, b4⟩
        have hB4 := hB.trans (b4.mono hzr)
        have hJl : (joinB [10, 10] (xs.map fun x => x.data.toList)).length = J.size := by rw [← size8, hJ]
        rw [hJl, ← hJ] at hR
        clear hJ hJl hsrc hsr
        by_cases h240 : (240 : Int) < J.size
        · rw [if_neg (by rintro ⟨-, h⟩; omega)] at hR
          replace hR := hid hR
          go_wp2_with (fail)
          go_ret2
          exact ⟨_, _, rfl, by rw [hR.out], hB4⟩
        · rw [if_pos ⟨by trivial, by omega⟩] at hR
          replace hR := hid hR
          go_wp2_with (fail)
          go_ret2
          exact ⟨_, _, rfl, by rw [hR.out], hB4⟩
end Go.Proofs.YtgbfekimflnaiaaDoor
