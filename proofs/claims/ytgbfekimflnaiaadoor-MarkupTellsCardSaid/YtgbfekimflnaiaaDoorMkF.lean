/- The walks of markup's Good. -/
import Derived.Test.YtgbfekimflnaiaaDoorMkE
namespace Go.Proofs.YtgbfekimflnaiaaDoor
open Go.RowKit Go.Shelf Go.Lib

def fnG : Value := .func (.func 30) #[] #[]
def allG (L : List Pt) : Bool := L.all fun x => goodB x.1 x.2.2

set_option maxRecDepth 100000 in
set_option maxHeartbeats 2000000 in
theorem Good1_any (k : Int) (wv : Value) (ws : List ByteArray) (w : World) (hsl : Sl w 1 encT wv ws) (hsz : ∀ s ∈ ws, s.size ≤ 1000000) (hT : Tabs w) :
    Calls Tryd.prog 30 #[.agg #[.int .i64 k, wv]] w fun e w' => e = .returned (.bool (!goodB k ws)) ∧ Below w.heap.size w w' := by
  obtain ⟨pw, cw, rfl, hwx⟩ := hsl.shape
  obtain ⟨W1, hW1⟩ : ∃ V, w.alloc (.cells #[.int .i64 k, .slice pw ws.length cw] 41) = V := ⟨_, rfl⟩
  have hn : W1.heap[w.heap.size]? = some (.cells #[.int .i64 k, .slice pw ws.length cw] 41 (0, 0)) := by rw [← hW1]; exact World.alloc_heap_new w _
  have hB1 : Below w.heap.size w W1 := by rw [← hW1]; exact (Below.refl _ w).alloc (Nat.le_refl _) _
  have cG := hid (good_any k (.slice pw ws.length cw) ws W1 ((Kept.of_below hB1 0).sl hsl) hsz (hT.below hB1))
  have c0 := cell_blk hn (i := 0) rfl
  have c1 := cell_blk hn (i := 1) rfl
  generalize goodB k ws = g at *
  clear hsl hT hn
  go_enter Tryd.func30, Tryd.ntmps30
  go_wp2_with (fail)
  refine cG.out.mono ?_
  rintro e w2 ⟨rfl, b2⟩
  go_wp2_with (fail)
  go_ret
  exact ⟨rfl, hB1.trans (b2.mono hB1.size)⟩

set_option maxRecDepth 100000 in
set_option maxHeartbeats 4000000 in
theorem IndexG_any (v : Value) (L : List Pt) (w : World) (hsl : Sl w 2 encPt v L) (hws : ∀ x ∈ L, Sl w 1 encT x.2.1 x.2.2) (hsz : ∀ x ∈ L, ∀ s ∈ x.2.2, s.size ≤ 1000000) (hT : Tabs w) :
    Calls Tryd.prog 43 #[v, fnG] w fun e w' => ∃ n : Int, e = .returned (.int .i64 n) ∧ decide (0 ≤ n) = !allG L ∧ Below w.heap.size w w' := by
  obtain ⟨p, cap, rfl, hmx⟩ := hsl.shape
  unfold maxLen at hmx
  have hal : ∀ j, allG (L.take j) = (L.take j).all fun x => goodB x.1 x.2.2 := fun _ => rfl
  unfold fnG
  go_enter Tryd.func43, Tryd.ntmps43
  go_wp2_with (fail)
  go_loopw [5, 8] (fun _ i wr => ∃ j : Nat, j ≤ L.length ∧ i = .int .i64 j ∧ allG (L.take j) = true ∧ Below w.heap.size w wr) (fun _ i _ => L.length - (RowKit.intOf i).toNat)
  case atStart => exact ⟨0, Nat.zero_le _, rfl, rfl, Below.refl _ _⟩
  case round =>
    obtain ⟨j, hj, rfl, hall, hB⟩ := hrel
    by_cases hjl : j < L.length
    · have hjI : (j : Int) < (L.length : Int) := by omega
      obtain ⟨nb, no, cap', he, h4, h5, h6⟩ := hsl.open (by rintro rfl; simp at hjl)
      simp only [Value.slice.injEq] at he
      obtain ⟨rfl, -, rfl⟩ := he
      have hx := (Kept.of_below hB 0).range (h6 j L[j] (List.getElem?_eq_getElem hjl))
      have x0 : wr.cell? ⟨nb, no + j * 2, none⟩ = some (.int .i64 L[j].1) := hx 0 _ rfl
      have x1 : wr.cell? ⟨nb, no + j * 2 + 1, none⟩ = some L[j].2.1 := hx 1 _ rfl
      have hmem := List.getElem_mem hjl
      have hs1 := (Kept.of_below hB 0).sl (hws _ hmem)
      have cG := hid (Good1_any L[j].1 L[j].2.1 L[j].2.2 wr hs1 (hsz _ hmem) (hT.below hB))
      have htk : allG (L.take (j + 1)) = (allG (L.take j) && goodB L[j].1 L[j].2.2) := by
        unfold allG
        rw [List.take_succ_eq_append_getElem hjl, List.all_append]; simp
      have hno : goodB L[j].1 L[j].2.2 = false → allG L = false := fun h => by
        unfold allG
        rw [List.all_eq_false]
        exact ⟨L[j], hmem, by rw [h]; simp⟩
      rw [hall] at htk
      obtain ⟨pw, cw, hwv, -⟩ := hs1.shape
      rw [hwv] at x1 cG
      generalize goodB L[j].1 L[j].2.2 = gw at *
      generalize L[j].2.2.length = nw at *
      generalize L[j].1 = kd at *
      replace htk := hid htk
      replace hno := hid hno
      clear h6 hmem hx hs1 hwv
      cases gw with
      | false =>
        go_wp2_with (fail)
        refine cG.out.mono ?_
        rintro e w2 ⟨rfl, b2⟩
        go_wp2_with (fail)
        go_ret
        exact ⟨j, rfl, by rw [hno.out trivial]; simp, hB.trans (b2.mono hB.size)⟩
      | true =>
        go_wp2_with (fail)
        refine cG.out.mono ?_
        rintro e w2 ⟨rfl, b2⟩
        go_wp2_with (fail)
        refine ⟨⟨j + 1, by omega, by go_num, by rw [htk.out]; rfl, hB.trans (b2.mono hB.size)⟩, by simp [RowKit.intOf]; omega⟩
    · obtain rfl : j = L.length := by omega
      rw [List.take_length] at hall
      go_wp2_with (fail)
      go_ret
      exact ⟨-1, rfl, by rw [hall]; rfl, hB⟩

set_option maxRecDepth 100000 in
set_option maxHeartbeats 2000000 in
theorem Good_any (v : Value) (L : List Pt) (w : World) (hsl : Sl w 2 encPt v L) (hws : ∀ x ∈ L, Sl w 1 encT x.2.1 x.2.2) (hsz : ∀ x ∈ L, ∀ s ∈ x.2.2, s.size ≤ 1000000) (hT : Tabs w) :
    Calls Tryd.prog 16 #[v] w fun e w' => e = .returned (.bool (allG L)) ∧ Below w.heap.size w w' := by
  have cI := hid (IndexG_any v L w hsl hws hsz hT)
  obtain ⟨p, cap, rfl, hmx⟩ := hsl.shape
  have cC : Calls Tryd.prog 29 #[.slice p L.length cap, fnG] w fun e w' => e = .returned (.bool (!allG L)) ∧ Below w.heap.size w w' := by
    generalize allG L = g at *
    unfold fnG at cI ⊢
    go_enter Tryd.func29, Tryd.ntmps29
    go_wp2_with (fail)
    refine cI.out.mono ?_
    rintro e w2 ⟨n, rfl, hn, b2⟩
    go_wp2_with (fail)
    go_ret
    exact ⟨by rw [← hn]; rfl, b2⟩
  replace cC := hid cC
  generalize allG L = g at *
  unfold fnG at cC
  go_enter Tryd.func16, Tryd.ntmps16
  go_wp2_with (fail)
  refine cC.out.mono ?_
  rintro e w2 ⟨rfl, b2⟩
  go_wp2_with (fail)
  go_ret
  exact ⟨by cases g <;> rfl, b2⟩
end Go.Proofs.YtgbfekimflnaiaaDoor
