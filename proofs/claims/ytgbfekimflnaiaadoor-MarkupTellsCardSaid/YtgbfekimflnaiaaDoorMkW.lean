/- The walk of the reference's Source (printed by gen_mkw.py). -/
import Derived.Test.YtgbfekimflnaiaaDoorMkX
import Derived.Test.YtgbfekimflnaiaaDoorMkI
namespace Go.Proofs.YtgbfekimflnaiaaDoor
open Go.RowKit Go.Shelf Go.Lib

theorem joinB_take (sep : L8) : ∀ {l : List L8} {k : Nat} (h : k < l.length), joinB sep (l.take (k + 1)) = joinB sep (l.take k) ++ (if k = 0 then [] else sep) ++ l[k] := by
  intro l
  induction l with
  | nil => intro k h; simp at h
  | cons x r ih =>
    intro k h
    cases k with
    | zero => simp [joinB]
    | succ k =>
      have hk : k < r.length := by simpa using h
      have hne : r.take (k + 1) ≠ [] := by
        intro e
        have := congrArg List.length e
        simp at this
        rw [this] at hk; simp at hk
      rw [List.take_succ_cons, joinB_cons _ _ hne, ih hk, if_neg (Nat.succ_ne_zero k), List.take_succ_cons, List.getElem_cons_succ]
      cases k with
      | zero => simp [joinB]
      | succ k =>
        have hne2 : r.take (k + 1) ≠ [] := by
          intro e
          have := congrArg List.length e
          simp at this
          rw [this] at hk; simp at hk
        rw [joinB_cons _ _ hne2, if_neg (Nat.succ_ne_zero k)]
        simp [List.append_assoc]
theorem joinB_take_le (sep : L8) (l : List L8) (k : Nat) : (joinB sep (l.take k)).length ≤ (joinB sep l).length := by
  by_cases hk : l.length ≤ k
  · rw [List.take_of_length_le hk]; exact Nat.le_refl _
  · obtain ⟨d, hd⟩ : ∃ d, l.length = k + d := ⟨l.length - k, by omega⟩
    have key : ∀ d, k + d ≤ l.length → (joinB sep (l.take k)).length ≤ (joinB sep (l.take (k + d))).length := by
      intro d
      induction d with
      | zero => intro _; exact Nat.le_refl _
      | succ d ih =>
        intro h
        have h1 := ih (by omega)
        rw [← Nat.add_assoc, joinB_take sep (by omega : k + d < l.length), List.length_append, List.length_append]
        omega
    have := key d (by omega)
    rwa [← hd, List.take_length] at this
def markT (k : Int) : L8 := if k = 2 then [61, 32] else if k = 3 then [45, 32] else if k = 4 then [45, 45, 45] else []
theorem lineP_mark (p : P8) (h : p.1 = 4 → p.2 = []) : lineP p = markT p.1 ++ joinB [32] p.2 := by
  unfold lineP markT
  by_cases h2 : p.1 = 2
  · rw [if_pos h2, if_pos h2]
  · by_cases h3 : p.1 = 3
    · rw [if_neg h2, if_neg h2, if_pos h3, if_pos h3]
    · by_cases h4 : p.1 = 4
      · rw [if_neg h2, if_neg h2, if_neg h3, if_neg h3, if_pos h4, if_pos h4, h h4]; rfl
      · rw [if_neg h2, if_neg h2, if_neg h3, if_neg h3, if_neg h4, if_neg h4]; rfl
theorem source_take {L : List Pt} (hg : allG L = true) {k : Nat} (h : k < L.length) : sourceL ((L.take (k + 1)).map pt8) = sourceL ((L.take k).map pt8) ++ (if k = 0 then [] else [10, 10]) ++ markT L[k].1 ++ joinB [32] (L[k].2.2.map fun s => s.data.toList) := by
  have e : lineP (pt8 L[k]) = markT L[k].1 ++ joinB [32] (L[k].2.2.map fun s => s.data.toList) := by
    refine lineP_mark (pt8 L[k]) fun h4 => ?_
    have hgk := List.all_eq_true.1 hg L[k] (List.getElem_mem h)
    rw [goodB_eq] at hgk
    have hp := (of_decide_eq_true hgk).2
    rcases hp with ⟨-, hp⟩ | ⟨hp, -⟩ | ⟨hp, -⟩
    · exact hp
    · have : L[k].1 = 4 := h4
      rcases hp with hp | hp <;> exact absurd (hp.symm.trans h4) (by decide)
    · exact absurd (hp.symm.trans h4) (by decide)
  unfold sourceL
  have hk2 : k < ((L.map pt8).map lineP).length := by simpa using h
  have := joinB_take [10, 10] hk2
  rw [← List.map_take, ← List.map_take, ← List.map_take, ← List.map_take] at this
  simp only [List.getElem_map] at this
  rw [this, e]
  simp only [List.append_assoc]
theorem source_le {L : List Pt} (hg : allG L = true) {k j : Nat} (h : k < L.length) : (sourceL ((L.take k).map pt8)).length + (if k = 0 then 0 else 2) + (markT L[k].1).length + (joinB [32] ((L[k].2.2.take j).map fun s => s.data.toList)).length ≤ (sourceL (L.map pt8)).length := by
  have h1 := source_take hg h
  have h2 : (sourceL ((L.take (k + 1)).map pt8)).length ≤ (sourceL (L.map pt8)).length := by
    unfold sourceL
    rw [List.map_take, List.map_take]
    exact joinB_take_le _ _ _
  rw [h1, List.length_append, List.length_append, List.length_append] at h2
  have h3 := joinB_take_le [32] (L[k].2.2.map fun s => s.data.toList) j
  rw [← List.map_take] at h3
  have h4 : (if k = 0 then ([] : L8) else [10, 10]).length = if k = 0 then 0 else 2 := by split <;> rfl
  rw [h4] at h2
  omega

set_option maxRecDepth 100000 in
set_option maxHeartbeats 8000000 in
theorem rSource_any (v : Value) (L : List Pt) (w : World) (hsl : Sl w 2 encPt v L) (hws : ∀ x ∈ L, Sl w 1 encT x.2.1 x.2.2) (hsz : ∀ x ∈ L, ∀ s ∈ x.2.2, s.size ≤ 1000000) :
    Calls Tryd.prog 14 #[v] w fun e w' => ∃ (x : ByteArray) (n : Int), e = .returned (.tuple #[.string x, .int .i64 n]) ∧ (x.data.toList, n) = sourceR L ∧ Below w.heap.size w w' := by
  have cG := hid (rGood_any v L w hsl hws hsz)
  obtain ⟨p, cap, rfl, hmx⟩ := hsl.shape
  unfold maxLen at hmx
  have hR : sourceR L = if allG L = true ∧ (sourceL (L.map pt8)).length ≤ 240 then (sourceL (L.map pt8), 0) else ([], 11) := rfl
  go_enter Tryd.func14, Tryd.ntmps14
  go_wp2_with (fail)
  refine cG.out.mono ?_
  rintro e wg ⟨rfl, bg⟩
  by_cases hg : allG L = true
  · have zg := (Kept.of_below bg 0).sl hsl
    have sg := fun x hx => (Kept.of_below bg 0).sl (hws x hx)
    clear cG
    simp only [hg]
    replace hR := hid hR
    go_wp2_with (fail)
    go_loopw [4, 5, 6, 25, 29, 33] (fun t i _ _ _ _ wv => ∃ (k : Nat) (S : ByteArray), k ≤ L.length ∧ i = .int .i64 k ∧ t = .string S ∧ S.data.toList = sourceL ((L.take k).map pt8) ∧ S.size ≤ 240 ∧ wg = wv) (fun _ i _ _ _ _ _ => L.length - (RowKit.intOf i).toNat)
    case atStart => exact ⟨0, ⟨#[]⟩, Nat.zero_le _, rfl, rfl, rfl, by decide, rfl⟩
    case round =>
      obtain ⟨k, S, hk, rfl, rfl, hS, hSs, rfl⟩ := hrel
      by_cases hkl : k < L.length
      · have hkI : (k : Int) < (L.length : Int) := by omega
        obtain ⟨mb, mo, cap2, he, h1, h2, hc⟩ := zg.open (by rintro rfl; simp at hkl)
        simp only [Value.slice.injEq] at he
        obtain ⟨rfl, -, rfl⟩ := he
        have ra := hc k L[k] (List.getElem?_eq_getElem hkl)
        have r0 : wg.cell? ⟨mb, mo + k * 2, none⟩ = some (.int .i64 L[k].1) := ra 0 _ rfl
        have r1 : wg.cell? ⟨mb, mo + k * 2 + 1, none⟩ = some L[k].2.1 := ra 1 _ rfl
        have sw := sg L[k] (List.getElem_mem _)
        have hwz := hid (hsz L[k] (List.getElem_mem _))
        obtain ⟨pw, cw, ew, hwx⟩ := sw.shape
        rw [ew] at r1 sw
        unfold maxLen at hwx
        have hst := hid (source_take hg hkl)
        have hle := hid (fun j => source_le (j := j) hg hkl)
        have hSl := hid (show (sourceL ((L.take k).map pt8)).length = S.size by rw [← hS, size8])
        replace hS := hid hS
        clear hc ra ew
        generalize L[k].2.2 = ws at *
        generalize L[k].1 = kd at *
        by_cases hk0 : k = 0
        · by_cases k2 : kd = 2
          · subst k2
            have hki : ¬ (0 : Int) < (k : Int) := by omega
            have hT0z : (S ++ ⟨#[61, 32]⟩ : ByteArray).size = S.size + 2 := by simp only [ByteArray.size_append]; rfl
            have hT0s : (S ++ ⟨#[61, 32]⟩ : ByteArray).size ≤ 245 := by omega
            have hT0d : (S ++ ⟨#[61, 32]⟩ : ByteArray).data.toList = S.data.toList ++ (if True then [] else [10, 10]) ++ markT 2 := by
              rw [show markT 2 = [61, 32] from rfl, if_pos trivial]
              simp [ByteArray.data_append]
            have hbnd : Hid (∀ j, (S ++ ⟨#[61, 32]⟩ : ByteArray).size + (joinB [32] ((ws.take j).map fun s => s.data.toList)).length ≤ (sourceL (L.map pt8)).length) := by
              refine hid fun j => ?_
              have := hle.out j
              rw [show markT 2 = [61, 32] from rfl, if_pos hk0, hSl.out] at this
              simp only [List.length_cons, List.length_nil] at this
              omega
            replace hk0 := hid hk0
            replace hT0z := hid hT0z
            replace hT0d := hid hT0d
            go_wp2_with (fail)
            go_loopw [4, 6] (fun t i wv => ∃ (j : Nat) (T : ByteArray), j ≤ ws.length ∧ i = .int .i64 j ∧ t = .string T ∧ T.data.toList = (S ++ ⟨#[61, 32]⟩).data.toList ++ joinB [32] ((ws.take j).map fun s => s.data.toList) ∧ T.size ≤ 245 ∧ wg = wv) (fun _ i _ => ws.length - (RowKit.intOf i).toNat)
            case atStart => exact ⟨0, S ++ ⟨#[61, 32]⟩, Nat.zero_le _, rfl, rfl, by simp [joinB], hT0s, rfl⟩
            case round =>
              obtain ⟨j, T, hj, rfl, rfl, hT2, hTs, rfl⟩ := hrel
              replace hT2 := hid hT2
              by_cases hjl : j < ws.length
              · have hjI : (j : Int) < (ws.length : Int) := by omega
                obtain ⟨xb, xo, cap3, he, h5, h6, hc3⟩ := sw.open (by rintro rfl; simp at hjl)
                simp only [Value.slice.injEq] at he
                obtain ⟨rfl, -, rfl⟩ := he
                have hcj := rangeAt_one (hc3 j ws[j] (List.getElem?_eq_getElem hjl))
                rw [Nat.mul_one] at hcj
                have hUs := hwz.out ws[j] (List.getElem_mem _)
                have hjt : Hid (joinB [32] ((ws.take (j + 1)).map fun s => s.data.toList) = joinB [32] ((ws.take j).map fun s => s.data.toList) ++ (if j = 0 then [] else [32]) ++ ws[j].data.toList) := by
                  have h9 : j < (ws.map fun s => s.data.toList).length := by simpa using hjl
                  have := joinB_take [32] h9
                  rw [← List.map_take, ← List.map_take, List.getElem_map] at this
                  exact hid this
                clear hc3
                generalize ws[j] = U at *
                by_cases hjz : j = 0
                · have hj0 : ¬ (0 : Int) < (j : Int) := by omega
                  have hU : (T ++ U : ByteArray).data.toList = (S ++ ⟨#[61, 32]⟩).data.toList ++ joinB [32] ((ws.take (j + 1)).map fun s => s.data.toList) := by
                    rw [hjt.out, if_pos hjz]
                    simp only [ByteArray.data_append, Array.toList_append, hT2.out, List.append_assoc, List.nil_append]
                  have hUz : (T ++ U : ByteArray).size = T.size + U.size := by
                    exact ByteArray.size_append
                  have hUl : (T ++ U : ByteArray).size = (S ++ ⟨#[61, 32]⟩).size + (joinB [32] ((ws.take (j + 1)).map fun s => s.data.toList)).length := by
                    rw [← size8, hU, List.length_append, size8]
                  have hb1 := hbnd.out (j + 1)
                  replace hU := hid hU
                  replace hjz := hid hjz
                  by_cases hbig : 240 < (T ++ U : ByteArray).size
                  · have hbI : (240 : Int) < ((T ++ U : ByteArray).size : Int) := by omega
                    have hbJ : (240 : Int) < (T.size : Int) + (U.size : Int) := by omega
                    have hsrc : 240 < (sourceL (L.map pt8)).length := by omega
                    have hsz9 := hUz
                    replace hUz := hid hUz
                    replace hUl := hid hUl
                    go_wp2_with (fail)
                    go_ret2
                    exact ⟨⟨#[]⟩, 11, rfl, by rw [hR.out, if_neg (fun h => by have := h.2; omega)], bg⟩
                  · have hbI : ¬ (240 : Int) < ((T ++ U : ByteArray).size : Int) := by omega
                    have hbJ : ¬ (240 : Int) < (T.size : Int) + (U.size : Int) := by omega
                    replace hUz := hid hUz
                    replace hUl := hid hUl
                    go_wp2_with (fail)
                    refine ⟨⟨j + 1, T ++ U, by omega, by go_num, rfl, hU.out, by omega, by trivial⟩, by simp [RowKit.intOf]; omega⟩
                · have hj0 : (0 : Int) < (j : Int) := by omega
                  have hU : (T ++ ⟨#[32]⟩ ++ U : ByteArray).data.toList = (S ++ ⟨#[61, 32]⟩).data.toList ++ joinB [32] ((ws.take (j + 1)).map fun s => s.data.toList) := by
                    rw [hjt.out, if_neg hjz]
                    simp only [ByteArray.data_append, Array.toList_append, hT2.out, List.append_assoc]
                  have hUz : (T ++ ⟨#[32]⟩ ++ U : ByteArray).size = T.size + 1 + U.size := by
                    rw [ByteArray.size_append, ByteArray.size_append]; rfl
                  have hUl : (T ++ ⟨#[32]⟩ ++ U : ByteArray).size = (S ++ ⟨#[61, 32]⟩).size + (joinB [32] ((ws.take (j + 1)).map fun s => s.data.toList)).length := by
                    rw [← size8, hU, List.length_append, size8]
                  have hb1 := hbnd.out (j + 1)
                  replace hU := hid hU
                  replace hjz := hid hjz
                  by_cases hbig : 240 < (T ++ ⟨#[32]⟩ ++ U : ByteArray).size
                  · have hbI : (240 : Int) < ((T ++ ⟨#[32]⟩ ++ U : ByteArray).size : Int) := by omega
                    have hbJ : (240 : Int) < (T.size : Int) + 1 + (U.size : Int) := by omega
                    have hsrc : 240 < (sourceL (L.map pt8)).length := by omega
                    have hsz9 := hUz
                    replace hUz := hid hUz
                    replace hUl := hid hUl
                    go_wp2_with (fail)
                    go_ret2
                    exact ⟨⟨#[]⟩, 11, rfl, by rw [hR.out, if_neg (fun h => by have := h.2; omega)], bg⟩
                  · have hbI : ¬ (240 : Int) < ((T ++ ⟨#[32]⟩ ++ U : ByteArray).size : Int) := by omega
                    have hbJ : ¬ (240 : Int) < (T.size : Int) + 1 + (U.size : Int) := by omega
                    replace hUz := hid hUz
                    replace hUl := hid hUl
                    go_wp2_with (fail)
                    refine ⟨⟨j + 1, T ++ ⟨#[32]⟩ ++ U, by omega, by go_num, rfl, hU.out, by omega, by trivial⟩, by simp [RowKit.intOf]; omega⟩
              · obtain rfl : j = ws.length := by omega
                have hfin : T.data.toList = sourceL ((L.take (k + 1)).map pt8) := by
                  rw [hT2.out, hT0d.out, List.take_length, hst.out, hS.out, if_pos hk0.out]
                  simp
                have hTl : T.size = (S ++ ⟨#[61, 32]⟩).size + (joinB [32] ((ws.take ws.length).map fun s => s.data.toList)).length := by
                  rw [← size8, hT2.out, List.length_append, size8]
                have hb1 := hbnd.out ws.length
                replace hfin := hid hfin
                by_cases hbig : 240 < T.size
                · have hbI : (240 : Int) < (T.size : Int) := by omega
                  have hsrc : 240 < (sourceL (L.map pt8)).length := by omega
                  replace hTl := hid hTl
                  go_wp2_with (fail)
                  go_ret2
                  exact ⟨⟨#[]⟩, 11, rfl, by rw [hR.out, if_neg (fun h => by have := h.2; omega)], bg⟩
                · have hbI : ¬ (240 : Int) < (T.size : Int) := by omega
                  replace hTl := hid hTl
                  go_wp2_with (fail)
                  refine ⟨⟨k + 1, T, by omega, by go_num, rfl, hfin.out, by omega, by trivial⟩, by simp [RowKit.intOf]; omega⟩
          · by_cases k3 : kd = 3
            · subst k3
              have hki : ¬ (0 : Int) < (k : Int) := by omega
              have hT0z : (S ++ ⟨#[45, 32]⟩ : ByteArray).size = S.size + 2 := by simp only [ByteArray.size_append]; rfl
              have hT0s : (S ++ ⟨#[45, 32]⟩ : ByteArray).size ≤ 245 := by omega
              have hT0d : (S ++ ⟨#[45, 32]⟩ : ByteArray).data.toList = S.data.toList ++ (if True then [] else [10, 10]) ++ markT 3 := by
                rw [show markT 3 = [45, 32] from rfl, if_pos trivial]
                simp [ByteArray.data_append]
              have hbnd : Hid (∀ j, (S ++ ⟨#[45, 32]⟩ : ByteArray).size + (joinB [32] ((ws.take j).map fun s => s.data.toList)).length ≤ (sourceL (L.map pt8)).length) := by
                refine hid fun j => ?_
                have := hle.out j
                rw [show markT 3 = [45, 32] from rfl, if_pos hk0, hSl.out] at this
                simp only [List.length_cons, List.length_nil] at this
                omega
              replace hk0 := hid hk0
              replace hT0z := hid hT0z
              replace hT0d := hid hT0d
              go_wp2_with (fail)
              go_loopw [4, 6] (fun t i wv => ∃ (j : Nat) (T : ByteArray), j ≤ ws.length ∧ i = .int .i64 j ∧ t = .string T ∧ T.data.toList = (S ++ ⟨#[45, 32]⟩).data.toList ++ joinB [32] ((ws.take j).map fun s => s.data.toList) ∧ T.size ≤ 245 ∧ wg = wv) (fun _ i _ => ws.length - (RowKit.intOf i).toNat)
              case atStart => exact ⟨0, S ++ ⟨#[45, 32]⟩, Nat.zero_le _, rfl, rfl, by simp [joinB], hT0s, rfl⟩
              case round =>
                obtain ⟨j, T, hj, rfl, rfl, hT2, hTs, rfl⟩ := hrel
                replace hT2 := hid hT2
                by_cases hjl : j < ws.length
                · have hjI : (j : Int) < (ws.length : Int) := by omega
                  obtain ⟨xb, xo, cap3, he, h5, h6, hc3⟩ := sw.open (by rintro rfl; simp at hjl)
                  simp only [Value.slice.injEq] at he
                  obtain ⟨rfl, -, rfl⟩ := he
                  have hcj := rangeAt_one (hc3 j ws[j] (List.getElem?_eq_getElem hjl))
                  rw [Nat.mul_one] at hcj
                  have hUs := hwz.out ws[j] (List.getElem_mem _)
                  have hjt : Hid (joinB [32] ((ws.take (j + 1)).map fun s => s.data.toList) = joinB [32] ((ws.take j).map fun s => s.data.toList) ++ (if j = 0 then [] else [32]) ++ ws[j].data.toList) := by
                    have h9 : j < (ws.map fun s => s.data.toList).length := by simpa using hjl
                    have := joinB_take [32] h9
                    rw [← List.map_take, ← List.map_take, List.getElem_map] at this
                    exact hid this
                  clear hc3
                  generalize ws[j] = U at *
                  by_cases hjz : j = 0
                  · have hj0 : ¬ (0 : Int) < (j : Int) := by omega
                    have hU : (T ++ U : ByteArray).data.toList = (S ++ ⟨#[45, 32]⟩).data.toList ++ joinB [32] ((ws.take (j + 1)).map fun s => s.data.toList) := by
                      rw [hjt.out, if_pos hjz]
                      simp only [ByteArray.data_append, Array.toList_append, hT2.out, List.append_assoc, List.nil_append]
                    have hUz : (T ++ U : ByteArray).size = T.size + U.size := by
                      exact ByteArray.size_append
                    have hUl : (T ++ U : ByteArray).size = (S ++ ⟨#[45, 32]⟩).size + (joinB [32] ((ws.take (j + 1)).map fun s => s.data.toList)).length := by
                      rw [← size8, hU, List.length_append, size8]
                    have hb1 := hbnd.out (j + 1)
                    replace hU := hid hU
                    replace hjz := hid hjz
                    by_cases hbig : 240 < (T ++ U : ByteArray).size
                    · have hbI : (240 : Int) < ((T ++ U : ByteArray).size : Int) := by omega
                      have hbJ : (240 : Int) < (T.size : Int) + (U.size : Int) := by omega
                      have hsrc : 240 < (sourceL (L.map pt8)).length := by omega
                      have hsz9 := hUz
                      replace hUz := hid hUz
                      replace hUl := hid hUl
                      go_wp2_with (fail)
                      go_ret2
                      exact ⟨⟨#[]⟩, 11, rfl, by rw [hR.out, if_neg (fun h => by have := h.2; omega)], bg⟩
                    · have hbI : ¬ (240 : Int) < ((T ++ U : ByteArray).size : Int) := by omega
                      have hbJ : ¬ (240 : Int) < (T.size : Int) + (U.size : Int) := by omega
                      replace hUz := hid hUz
                      replace hUl := hid hUl
                      go_wp2_with (fail)
                      refine ⟨⟨j + 1, T ++ U, by omega, by go_num, rfl, hU.out, by omega, by trivial⟩, by simp [RowKit.intOf]; omega⟩
                  · have hj0 : (0 : Int) < (j : Int) := by omega
                    have hU : (T ++ ⟨#[32]⟩ ++ U : ByteArray).data.toList = (S ++ ⟨#[45, 32]⟩).data.toList ++ joinB [32] ((ws.take (j + 1)).map fun s => s.data.toList) := by
                      rw [hjt.out, if_neg hjz]
                      simp only [ByteArray.data_append, Array.toList_append, hT2.out, List.append_assoc]
                    have hUz : (T ++ ⟨#[32]⟩ ++ U : ByteArray).size = T.size + 1 + U.size := by
                      rw [ByteArray.size_append, ByteArray.size_append]; rfl
                    have hUl : (T ++ ⟨#[32]⟩ ++ U : ByteArray).size = (S ++ ⟨#[45, 32]⟩).size + (joinB [32] ((ws.take (j + 1)).map fun s => s.data.toList)).length := by
                      rw [← size8, hU, List.length_append, size8]
                    have hb1 := hbnd.out (j + 1)
                    replace hU := hid hU
                    replace hjz := hid hjz
                    by_cases hbig : 240 < (T ++ ⟨#[32]⟩ ++ U : ByteArray).size
                    · have hbI : (240 : Int) < ((T ++ ⟨#[32]⟩ ++ U : ByteArray).size : Int) := by omega
                      have hbJ : (240 : Int) < (T.size : Int) + 1 + (U.size : Int) := by omega
                      have hsrc : 240 < (sourceL (L.map pt8)).length := by omega
                      have hsz9 := hUz
                      replace hUz := hid hUz
                      replace hUl := hid hUl
                      go_wp2_with (fail)
                      go_ret2
                      exact ⟨⟨#[]⟩, 11, rfl, by rw [hR.out, if_neg (fun h => by have := h.2; omega)], bg⟩
                    · have hbI : ¬ (240 : Int) < ((T ++ ⟨#[32]⟩ ++ U : ByteArray).size : Int) := by omega
                      have hbJ : ¬ (240 : Int) < (T.size : Int) + 1 + (U.size : Int) := by omega
                      replace hUz := hid hUz
                      replace hUl := hid hUl
                      go_wp2_with (fail)
                      refine ⟨⟨j + 1, T ++ ⟨#[32]⟩ ++ U, by omega, by go_num, rfl, hU.out, by omega, by trivial⟩, by simp [RowKit.intOf]; omega⟩
                · obtain rfl : j = ws.length := by omega
                  have hfin : T.data.toList = sourceL ((L.take (k + 1)).map pt8) := by
                    rw [hT2.out, hT0d.out, List.take_length, hst.out, hS.out, if_pos hk0.out]
                    simp
                  have hTl : T.size = (S ++ ⟨#[45, 32]⟩).size + (joinB [32] ((ws.take ws.length).map fun s => s.data.toList)).length := by
                    rw [← size8, hT2.out, List.length_append, size8]
                  have hb1 := hbnd.out ws.length
                  replace hfin := hid hfin
                  by_cases hbig : 240 < T.size
                  · have hbI : (240 : Int) < (T.size : Int) := by omega
                    have hsrc : 240 < (sourceL (L.map pt8)).length := by omega
                    replace hTl := hid hTl
                    go_wp2_with (fail)
                    go_ret2
                    exact ⟨⟨#[]⟩, 11, rfl, by rw [hR.out, if_neg (fun h => by have := h.2; omega)], bg⟩
                  · have hbI : ¬ (240 : Int) < (T.size : Int) := by omega
                    replace hTl := hid hTl
                    go_wp2_with (fail)
                    refine ⟨⟨k + 1, T, by omega, by go_num, rfl, hfin.out, by omega, by trivial⟩, by simp [RowKit.intOf]; omega⟩
            · by_cases k4 : kd = 4
              · subst k4
                have hki : ¬ (0 : Int) < (k : Int) := by omega
                have hT0z : (S ++ ⟨#[45, 45, 45]⟩ : ByteArray).size = S.size + 3 := by simp only [ByteArray.size_append]; rfl
                have hT0s : (S ++ ⟨#[45, 45, 45]⟩ : ByteArray).size ≤ 245 := by omega
                have hT0d : (S ++ ⟨#[45, 45, 45]⟩ : ByteArray).data.toList = S.data.toList ++ (if True then [] else [10, 10]) ++ markT 4 := by
                  rw [show markT 4 = [45, 45, 45] from rfl, if_pos trivial]
                  simp [ByteArray.data_append]
                have hbnd : Hid (∀ j, (S ++ ⟨#[45, 45, 45]⟩ : ByteArray).size + (joinB [32] ((ws.take j).map fun s => s.data.toList)).length ≤ (sourceL (L.map pt8)).length) := by
                  refine hid fun j => ?_
                  have := hle.out j
                  rw [show markT 4 = [45, 45, 45] from rfl, if_pos hk0, hSl.out] at this
                  simp only [List.length_cons, List.length_nil] at this
                  omega
                replace hk0 := hid hk0
                replace hT0z := hid hT0z
                replace hT0d := hid hT0d
                go_wp2_with (fail)
                go_loopw [4, 6] (fun t i wv => ∃ (j : Nat) (T : ByteArray), j ≤ ws.length ∧ i = .int .i64 j ∧ t = .string T ∧ T.data.toList = (S ++ ⟨#[45, 45, 45]⟩).data.toList ++ joinB [32] ((ws.take j).map fun s => s.data.toList) ∧ T.size ≤ 245 ∧ wg = wv) (fun _ i _ => ws.length - (RowKit.intOf i).toNat)
                case atStart => exact ⟨0, S ++ ⟨#[45, 45, 45]⟩, Nat.zero_le _, rfl, rfl, by simp [joinB], hT0s, rfl⟩
                case round =>
                  obtain ⟨j, T, hj, rfl, rfl, hT2, hTs, rfl⟩ := hrel
                  replace hT2 := hid hT2
                  by_cases hjl : j < ws.length
                  · have hjI : (j : Int) < (ws.length : Int) := by omega
                    obtain ⟨xb, xo, cap3, he, h5, h6, hc3⟩ := sw.open (by rintro rfl; simp at hjl)
                    simp only [Value.slice.injEq] at he
                    obtain ⟨rfl, -, rfl⟩ := he
                    have hcj := rangeAt_one (hc3 j ws[j] (List.getElem?_eq_getElem hjl))
                    rw [Nat.mul_one] at hcj
                    have hUs := hwz.out ws[j] (List.getElem_mem _)
                    have hjt : Hid (joinB [32] ((ws.take (j + 1)).map fun s => s.data.toList) = joinB [32] ((ws.take j).map fun s => s.data.toList) ++ (if j = 0 then [] else [32]) ++ ws[j].data.toList) := by
                      have h9 : j < (ws.map fun s => s.data.toList).length := by simpa using hjl
                      have := joinB_take [32] h9
                      rw [← List.map_take, ← List.map_take, List.getElem_map] at this
                      exact hid this
                    clear hc3
                    generalize ws[j] = U at *
                    by_cases hjz : j = 0
                    · have hj0 : ¬ (0 : Int) < (j : Int) := by omega
                      have hU : (T ++ U : ByteArray).data.toList = (S ++ ⟨#[45, 45, 45]⟩).data.toList ++ joinB [32] ((ws.take (j + 1)).map fun s => s.data.toList) := by
                        rw [hjt.out, if_pos hjz]
                        simp only [ByteArray.data_append, Array.toList_append, hT2.out, List.append_assoc, List.nil_append]
                      have hUz : (T ++ U : ByteArray).size = T.size + U.size := by
                        exact ByteArray.size_append
                      have hUl : (T ++ U : ByteArray).size = (S ++ ⟨#[45, 45, 45]⟩).size + (joinB [32] ((ws.take (j + 1)).map fun s => s.data.toList)).length := by
                        rw [← size8, hU, List.length_append, size8]
                      have hb1 := hbnd.out (j + 1)
                      replace hU := hid hU
                      replace hjz := hid hjz
                      by_cases hbig : 240 < (T ++ U : ByteArray).size
                      · have hbI : (240 : Int) < ((T ++ U : ByteArray).size : Int) := by omega
                        have hbJ : (240 : Int) < (T.size : Int) + (U.size : Int) := by omega
                        have hsrc : 240 < (sourceL (L.map pt8)).length := by omega
                        have hsz9 := hUz
                        replace hUz := hid hUz
                        replace hUl := hid hUl
                        go_wp2_with (fail)
                        go_ret2
                        exact ⟨⟨#[]⟩, 11, rfl, by rw [hR.out, if_neg (fun h => by have := h.2; omega)], bg⟩
                      · have hbI : ¬ (240 : Int) < ((T ++ U : ByteArray).size : Int) := by omega
                        have hbJ : ¬ (240 : Int) < (T.size : Int) + (U.size : Int) := by omega
                        replace hUz := hid hUz
                        replace hUl := hid hUl
                        go_wp2_with (fail)
                        refine ⟨⟨j + 1, T ++ U, by omega, by go_num, rfl, hU.out, by omega, by trivial⟩, by simp [RowKit.intOf]; omega⟩
                    · have hj0 : (0 : Int) < (j : Int) := by omega
                      have hU : (T ++ ⟨#[32]⟩ ++ U : ByteArray).data.toList = (S ++ ⟨#[45, 45, 45]⟩).data.toList ++ joinB [32] ((ws.take (j + 1)).map fun s => s.data.toList) := by
                        rw [hjt.out, if_neg hjz]
                        simp only [ByteArray.data_append, Array.toList_append, hT2.out, List.append_assoc]
                      have hUz : (T ++ ⟨#[32]⟩ ++ U : ByteArray).size = T.size + 1 + U.size := by
                        rw [ByteArray.size_append, ByteArray.size_append]; rfl
                      have hUl : (T ++ ⟨#[32]⟩ ++ U : ByteArray).size = (S ++ ⟨#[45, 45, 45]⟩).size + (joinB [32] ((ws.take (j + 1)).map fun s => s.data.toList)).length := by
                        rw [← size8, hU, List.length_append, size8]
                      have hb1 := hbnd.out (j + 1)
                      replace hU := hid hU
                      replace hjz := hid hjz
                      by_cases hbig : 240 < (T ++ ⟨#[32]⟩ ++ U : ByteArray).size
                      · have hbI : (240 : Int) < ((T ++ ⟨#[32]⟩ ++ U : ByteArray).size : Int) := by omega
                        have hbJ : (240 : Int) < (T.size : Int) + 1 + (U.size : Int) := by omega
                        have hsrc : 240 < (sourceL (L.map pt8)).length := by omega
                        have hsz9 := hUz
                        replace hUz := hid hUz
                        replace hUl := hid hUl
                        go_wp2_with (fail)
                        go_ret2
                        exact ⟨⟨#[]⟩, 11, rfl, by rw [hR.out, if_neg (fun h => by have := h.2; omega)], bg⟩
                      · have hbI : ¬ (240 : Int) < ((T ++ ⟨#[32]⟩ ++ U : ByteArray).size : Int) := by omega
                        have hbJ : ¬ (240 : Int) < (T.size : Int) + 1 + (U.size : Int) := by omega
                        replace hUz := hid hUz
                        replace hUl := hid hUl
                        go_wp2_with (fail)
                        refine ⟨⟨j + 1, T ++ ⟨#[32]⟩ ++ U, by omega, by go_num, rfl, hU.out, by omega, by trivial⟩, by simp [RowKit.intOf]; omega⟩
                  · obtain rfl : j = ws.length := by omega
                    have hfin : T.data.toList = sourceL ((L.take (k + 1)).map pt8) := by
                      rw [hT2.out, hT0d.out, List.take_length, hst.out, hS.out, if_pos hk0.out]
                      simp
                    have hTl : T.size = (S ++ ⟨#[45, 45, 45]⟩).size + (joinB [32] ((ws.take ws.length).map fun s => s.data.toList)).length := by
                      rw [← size8, hT2.out, List.length_append, size8]
                    have hb1 := hbnd.out ws.length
                    replace hfin := hid hfin
                    by_cases hbig : 240 < T.size
                    · have hbI : (240 : Int) < (T.size : Int) := by omega
                      have hsrc : 240 < (sourceL (L.map pt8)).length := by omega
                      replace hTl := hid hTl
                      go_wp2_with (fail)
                      go_ret2
                      exact ⟨⟨#[]⟩, 11, rfl, by rw [hR.out, if_neg (fun h => by have := h.2; omega)], bg⟩
                    · have hbI : ¬ (240 : Int) < (T.size : Int) := by omega
                      replace hTl := hid hTl
                      go_wp2_with (fail)
                      refine ⟨⟨k + 1, T, by omega, by go_num, rfl, hfin.out, by omega, by trivial⟩, by simp [RowKit.intOf]; omega⟩
              · have k2b : (kd == 2) = false := by simpa using k2
                have k3b : (kd == 3) = false := by simpa using k3
                have k4b : (kd == 4) = false := by simpa using k4
                have hmk : markT kd = [] := by unfold markT; rw [if_neg k2, if_neg k3, if_neg k4]
                replace hmk := hid hmk
                replace k2 := hid k2
                replace k3 := hid k3
                replace k4 := hid k4
                have hki : ¬ (0 : Int) < (k : Int) := by omega
                have hT0z : (S : ByteArray).size = S.size := by rfl
                have hT0s : (S : ByteArray).size ≤ 245 := by omega
                have hT0d : (S : ByteArray).data.toList = S.data.toList ++ (if True then [] else [10, 10]) ++ markT kd := by
                  rw [hmk.out, if_pos trivial]
                  simp [ByteArray.data_append]
                have hbnd : Hid (∀ j, (S : ByteArray).size + (joinB [32] ((ws.take j).map fun s => s.data.toList)).length ≤ (sourceL (L.map pt8)).length) := by
                  refine hid fun j => ?_
                  have := hle.out j
                  rw [hmk.out, if_pos hk0, hSl.out] at this
                  simp only [List.length_cons, List.length_nil] at this
                  omega
                replace hk0 := hid hk0
                replace hT0z := hid hT0z
                replace hT0d := hid hT0d
                go_wp2_with (fail)
                go_loopw [4, 6] (fun t i wv => ∃ (j : Nat) (T : ByteArray), j ≤ ws.length ∧ i = .int .i64 j ∧ t = .string T ∧ T.data.toList = (S).data.toList ++ joinB [32] ((ws.take j).map fun s => s.data.toList) ∧ T.size ≤ 245 ∧ wg = wv) (fun _ i _ => ws.length - (RowKit.intOf i).toNat)
                case atStart => exact ⟨0, S, Nat.zero_le _, rfl, rfl, by simp [joinB], hT0s, rfl⟩
                case round =>
                  obtain ⟨j, T, hj, rfl, rfl, hT2, hTs, rfl⟩ := hrel
                  replace hT2 := hid hT2
                  by_cases hjl : j < ws.length
                  · have hjI : (j : Int) < (ws.length : Int) := by omega
                    obtain ⟨xb, xo, cap3, he, h5, h6, hc3⟩ := sw.open (by rintro rfl; simp at hjl)
                    simp only [Value.slice.injEq] at he
                    obtain ⟨rfl, -, rfl⟩ := he
                    have hcj := rangeAt_one (hc3 j ws[j] (List.getElem?_eq_getElem hjl))
                    rw [Nat.mul_one] at hcj
                    have hUs := hwz.out ws[j] (List.getElem_mem _)
                    have hjt : Hid (joinB [32] ((ws.take (j + 1)).map fun s => s.data.toList) = joinB [32] ((ws.take j).map fun s => s.data.toList) ++ (if j = 0 then [] else [32]) ++ ws[j].data.toList) := by
                      have h9 : j < (ws.map fun s => s.data.toList).length := by simpa using hjl
                      have := joinB_take [32] h9
                      rw [← List.map_take, ← List.map_take, List.getElem_map] at this
                      exact hid this
                    clear hc3
                    generalize ws[j] = U at *
                    by_cases hjz : j = 0
                    · have hj0 : ¬ (0 : Int) < (j : Int) := by omega
                      have hU : (T ++ U : ByteArray).data.toList = (S).data.toList ++ joinB [32] ((ws.take (j + 1)).map fun s => s.data.toList) := by
                        rw [hjt.out, if_pos hjz]
                        simp only [ByteArray.data_append, Array.toList_append, hT2.out, List.append_assoc, List.nil_append]
                      have hUz : (T ++ U : ByteArray).size = T.size + U.size := by
                        exact ByteArray.size_append
                      have hUl : (T ++ U : ByteArray).size = (S).size + (joinB [32] ((ws.take (j + 1)).map fun s => s.data.toList)).length := by
                        rw [← size8, hU, List.length_append, size8]
                      have hb1 := hbnd.out (j + 1)
                      replace hU := hid hU
                      replace hjz := hid hjz
                      by_cases hbig : 240 < (T ++ U : ByteArray).size
                      · have hbI : (240 : Int) < ((T ++ U : ByteArray).size : Int) := by omega
                        have hbJ : (240 : Int) < (T.size : Int) + (U.size : Int) := by omega
                        have hsrc : 240 < (sourceL (L.map pt8)).length := by omega
                        have hsz9 := hUz
                        replace hUz := hid hUz
                        replace hUl := hid hUl
                        go_wp2_with (fail)
                        go_ret2
                        exact ⟨⟨#[]⟩, 11, rfl, by rw [hR.out, if_neg (fun h => by have := h.2; omega)], bg⟩
                      · have hbI : ¬ (240 : Int) < ((T ++ U : ByteArray).size : Int) := by omega
                        have hbJ : ¬ (240 : Int) < (T.size : Int) + (U.size : Int) := by omega
                        replace hUz := hid hUz
                        replace hUl := hid hUl
                        go_wp2_with (fail)
                        refine ⟨⟨j + 1, T ++ U, by omega, by go_num, rfl, hU.out, by omega, by trivial⟩, by simp [RowKit.intOf]; omega⟩
                    · have hj0 : (0 : Int) < (j : Int) := by omega
                      have hU : (T ++ ⟨#[32]⟩ ++ U : ByteArray).data.toList = (S).data.toList ++ joinB [32] ((ws.take (j + 1)).map fun s => s.data.toList) := by
                        rw [hjt.out, if_neg hjz]
                        simp only [ByteArray.data_append, Array.toList_append, hT2.out, List.append_assoc]
                      have hUz : (T ++ ⟨#[32]⟩ ++ U : ByteArray).size = T.size + 1 + U.size := by
                        rw [ByteArray.size_append, ByteArray.size_append]; rfl
                      have hUl : (T ++ ⟨#[32]⟩ ++ U : ByteArray).size = (S).size + (joinB [32] ((ws.take (j + 1)).map fun s => s.data.toList)).length := by
                        rw [← size8, hU, List.length_append, size8]
                      have hb1 := hbnd.out (j + 1)
                      replace hU := hid hU
                      replace hjz := hid hjz
                      by_cases hbig : 240 < (T ++ ⟨#[32]⟩ ++ U : ByteArray).size
                      · have hbI : (240 : Int) < ((T ++ ⟨#[32]⟩ ++ U : ByteArray).size : Int) := by omega
                        have hbJ : (240 : Int) < (T.size : Int) + 1 + (U.size : Int) := by omega
                        have hsrc : 240 < (sourceL (L.map pt8)).length := by omega
                        have hsz9 := hUz
                        replace hUz := hid hUz
                        replace hUl := hid hUl
                        go_wp2_with (fail)
                        go_ret2
                        exact ⟨⟨#[]⟩, 11, rfl, by rw [hR.out, if_neg (fun h => by have := h.2; omega)], bg⟩
                      · have hbI : ¬ (240 : Int) < ((T ++ ⟨#[32]⟩ ++ U : ByteArray).size : Int) := by omega
                        have hbJ : ¬ (240 : Int) < (T.size : Int) + 1 + (U.size : Int) := by omega
                        replace hUz := hid hUz
                        replace hUl := hid hUl
                        go_wp2_with (fail)
                        refine ⟨⟨j + 1, T ++ ⟨#[32]⟩ ++ U, by omega, by go_num, rfl, hU.out, by omega, by trivial⟩, by simp [RowKit.intOf]; omega⟩
                  · obtain rfl : j = ws.length := by omega
                    have hfin : T.data.toList = sourceL ((L.take (k + 1)).map pt8) := by
                      rw [hT2.out, hT0d.out, List.take_length, hst.out, hS.out, if_pos hk0.out]
                      simp
                    have hTl : T.size = (S).size + (joinB [32] ((ws.take ws.length).map fun s => s.data.toList)).length := by
                      rw [← size8, hT2.out, List.length_append, size8]
                    have hb1 := hbnd.out ws.length
                    replace hfin := hid hfin
                    by_cases hbig : 240 < T.size
                    · have hbI : (240 : Int) < (T.size : Int) := by omega
                      have hsrc : 240 < (sourceL (L.map pt8)).length := by omega
                      replace hTl := hid hTl
                      go_wp2_with (fail)
                      go_ret2
                      exact ⟨⟨#[]⟩, 11, rfl, by rw [hR.out, if_neg (fun h => by have := h.2; omega)], bg⟩
                    · have hbI : ¬ (240 : Int) < (T.size : Int) := by omega
                      replace hTl := hid hTl
                      go_wp2_with (fail)
                      refine ⟨⟨k + 1, T, by omega, by go_num, rfl, hfin.out, by omega, by trivial⟩, by simp [RowKit.intOf]; omega⟩
        · by_cases k2 : kd = 2
          · subst k2
            have hki : (0 : Int) < (k : Int) := by omega
            have hT0z : (S ++ ⟨#[10, 10]⟩ ++ ⟨#[61, 32]⟩ : ByteArray).size = S.size + 2 + 2 := by simp only [ByteArray.size_append]; rfl
            have hT0s : (S ++ ⟨#[10, 10]⟩ ++ ⟨#[61, 32]⟩ : ByteArray).size ≤ 245 := by omega
            have hT0d : (S ++ ⟨#[10, 10]⟩ ++ ⟨#[61, 32]⟩ : ByteArray).data.toList = S.data.toList ++ (if False then [] else [10, 10]) ++ markT 2 := by
              rw [show markT 2 = [61, 32] from rfl, if_neg not_false]
              simp [ByteArray.data_append]
            have hbnd : Hid (∀ j, (S ++ ⟨#[10, 10]⟩ ++ ⟨#[61, 32]⟩ : ByteArray).size + (joinB [32] ((ws.take j).map fun s => s.data.toList)).length ≤ (sourceL (L.map pt8)).length) := by
              refine hid fun j => ?_
              have := hle.out j
              rw [show markT 2 = [61, 32] from rfl, if_neg hk0, hSl.out] at this
              simp only [List.length_cons, List.length_nil] at this
              omega
            replace hk0 := hid hk0
            replace hT0z := hid hT0z
            replace hT0d := hid hT0d
            go_wp2_with (fail)
            go_loopw [4, 6] (fun t i wv => ∃ (j : Nat) (T : ByteArray), j ≤ ws.length ∧ i = .int .i64 j ∧ t = .string T ∧ T.data.toList = (S ++ ⟨#[10, 10]⟩ ++ ⟨#[61, 32]⟩).data.toList ++ joinB [32] ((ws.take j).map fun s => s.data.toList) ∧ T.size ≤ 245 ∧ wg = wv) (fun _ i _ => ws.length - (RowKit.intOf i).toNat)
            case atStart => exact ⟨0, S ++ ⟨#[10, 10]⟩ ++ ⟨#[61, 32]⟩, Nat.zero_le _, rfl, rfl, by simp [joinB], hT0s, rfl⟩
            case round =>
              obtain ⟨j, T, hj, rfl, rfl, hT2, hTs, rfl⟩ := hrel
              replace hT2 := hid hT2
              by_cases hjl : j < ws.length
              · have hjI : (j : Int) < (ws.length : Int) := by omega
                obtain ⟨xb, xo, cap3, he, h5, h6, hc3⟩ := sw.open (by rintro rfl; simp at hjl)
                simp only [Value.slice.injEq] at he
                obtain ⟨rfl, -, rfl⟩ := he
                have hcj := rangeAt_one (hc3 j ws[j] (List.getElem?_eq_getElem hjl))
                rw [Nat.mul_one] at hcj
                have hUs := hwz.out ws[j] (List.getElem_mem _)
                have hjt : Hid (joinB [32] ((ws.take (j + 1)).map fun s => s.data.toList) = joinB [32] ((ws.take j).map fun s => s.data.toList) ++ (if j = 0 then [] else [32]) ++ ws[j].data.toList) := by
                  have h9 : j < (ws.map fun s => s.data.toList).length := by simpa using hjl
                  have := joinB_take [32] h9
                  rw [← List.map_take, ← List.map_take, List.getElem_map] at this
                  exact hid this
                clear hc3
                generalize ws[j] = U at *
                by_cases hjz : j = 0
                · have hj0 : ¬ (0 : Int) < (j : Int) := by omega
                  have hU : (T ++ U : ByteArray).data.toList = (S ++ ⟨#[10, 10]⟩ ++ ⟨#[61, 32]⟩).data.toList ++ joinB [32] ((ws.take (j + 1)).map fun s => s.data.toList) := by
                    rw [hjt.out, if_pos hjz]
                    simp only [ByteArray.data_append, Array.toList_append, hT2.out, List.append_assoc, List.nil_append]
                  have hUz : (T ++ U : ByteArray).size = T.size + U.size := by
                    exact ByteArray.size_append
                  have hUl : (T ++ U : ByteArray).size = (S ++ ⟨#[10, 10]⟩ ++ ⟨#[61, 32]⟩).size + (joinB [32] ((ws.take (j + 1)).map fun s => s.data.toList)).length := by
                    rw [← size8, hU, List.length_append, size8]
                  have hb1 := hbnd.out (j + 1)
                  replace hU := hid hU
                  replace hjz := hid hjz
                  by_cases hbig : 240 < (T ++ U : ByteArray).size
                  · have hbI : (240 : Int) < ((T ++ U : ByteArray).size : Int) := by omega
                    have hbJ : (240 : Int) < (T.size : Int) + (U.size : Int) := by omega
                    have hsrc : 240 < (sourceL (L.map pt8)).length := by omega
                    have hsz9 := hUz
                    replace hUz := hid hUz
                    replace hUl := hid hUl
                    go_wp2_with (fail)
                    go_ret2
                    exact ⟨⟨#[]⟩, 11, rfl, by rw [hR.out, if_neg (fun h => by have := h.2; omega)], bg⟩
                  · have hbI : ¬ (240 : Int) < ((T ++ U : ByteArray).size : Int) := by omega
                    have hbJ : ¬ (240 : Int) < (T.size : Int) + (U.size : Int) := by omega
                    replace hUz := hid hUz
                    replace hUl := hid hUl
                    go_wp2_with (fail)
                    refine ⟨⟨j + 1, T ++ U, by omega, by go_num, rfl, hU.out, by omega, by trivial⟩, by simp [RowKit.intOf]; omega⟩
                · have hj0 : (0 : Int) < (j : Int) := by omega
                  have hU : (T ++ ⟨#[32]⟩ ++ U : ByteArray).data.toList = (S ++ ⟨#[10, 10]⟩ ++ ⟨#[61, 32]⟩).data.toList ++ joinB [32] ((ws.take (j + 1)).map fun s => s.data.toList) := by
                    rw [hjt.out, if_neg hjz]
                    simp only [ByteArray.data_append, Array.toList_append, hT2.out, List.append_assoc]
                  have hUz : (T ++ ⟨#[32]⟩ ++ U : ByteArray).size = T.size + 1 + U.size := by
                    rw [ByteArray.size_append, ByteArray.size_append]; rfl
                  have hUl : (T ++ ⟨#[32]⟩ ++ U : ByteArray).size = (S ++ ⟨#[10, 10]⟩ ++ ⟨#[61, 32]⟩).size + (joinB [32] ((ws.take (j + 1)).map fun s => s.data.toList)).length := by
                    rw [← size8, hU, List.length_append, size8]
                  have hb1 := hbnd.out (j + 1)
                  replace hU := hid hU
                  replace hjz := hid hjz
                  by_cases hbig : 240 < (T ++ ⟨#[32]⟩ ++ U : ByteArray).size
                  · have hbI : (240 : Int) < ((T ++ ⟨#[32]⟩ ++ U : ByteArray).size : Int) := by omega
                    have hbJ : (240 : Int) < (T.size : Int) + 1 + (U.size : Int) := by omega
                    have hsrc : 240 < (sourceL (L.map pt8)).length := by omega
                    have hsz9 := hUz
                    replace hUz := hid hUz
                    replace hUl := hid hUl
                    go_wp2_with (fail)
                    go_ret2
                    exact ⟨⟨#[]⟩, 11, rfl, by rw [hR.out, if_neg (fun h => by have := h.2; omega)], bg⟩
                  · have hbI : ¬ (240 : Int) < ((T ++ ⟨#[32]⟩ ++ U : ByteArray).size : Int) := by omega
                    have hbJ : ¬ (240 : Int) < (T.size : Int) + 1 + (U.size : Int) := by omega
                    replace hUz := hid hUz
                    replace hUl := hid hUl
                    go_wp2_with (fail)
                    refine ⟨⟨j + 1, T ++ ⟨#[32]⟩ ++ U, by omega, by go_num, rfl, hU.out, by omega, by trivial⟩, by simp [RowKit.intOf]; omega⟩
              · obtain rfl : j = ws.length := by omega
                have hfin : T.data.toList = sourceL ((L.take (k + 1)).map pt8) := by
                  rw [hT2.out, hT0d.out, List.take_length, hst.out, hS.out, if_neg hk0.out]
                  simp
                have hTl : T.size = (S ++ ⟨#[10, 10]⟩ ++ ⟨#[61, 32]⟩).size + (joinB [32] ((ws.take ws.length).map fun s => s.data.toList)).length := by
                  rw [← size8, hT2.out, List.length_append, size8]
                have hb1 := hbnd.out ws.length
                replace hfin := hid hfin
                by_cases hbig : 240 < T.size
                · have hbI : (240 : Int) < (T.size : Int) := by omega
                  have hsrc : 240 < (sourceL (L.map pt8)).length := by omega
                  replace hTl := hid hTl
                  go_wp2_with (fail)
                  go_ret2
                  exact ⟨⟨#[]⟩, 11, rfl, by rw [hR.out, if_neg (fun h => by have := h.2; omega)], bg⟩
                · have hbI : ¬ (240 : Int) < (T.size : Int) := by omega
                  replace hTl := hid hTl
                  go_wp2_with (fail)
                  refine ⟨⟨k + 1, T, by omega, by go_num, rfl, hfin.out, by omega, by trivial⟩, by simp [RowKit.intOf]; omega⟩
          · by_cases k3 : kd = 3
            · subst k3
              have hki : (0 : Int) < (k : Int) := by omega
              have hT0z : (S ++ ⟨#[10, 10]⟩ ++ ⟨#[45, 32]⟩ : ByteArray).size = S.size + 2 + 2 := by simp only [ByteArray.size_append]; rfl
              have hT0s : (S ++ ⟨#[10, 10]⟩ ++ ⟨#[45, 32]⟩ : ByteArray).size ≤ 245 := by omega
              have hT0d : (S ++ ⟨#[10, 10]⟩ ++ ⟨#[45, 32]⟩ : ByteArray).data.toList = S.data.toList ++ (if False then [] else [10, 10]) ++ markT 3 := by
                rw [show markT 3 = [45, 32] from rfl, if_neg not_false]
                simp [ByteArray.data_append]
              have hbnd : Hid (∀ j, (S ++ ⟨#[10, 10]⟩ ++ ⟨#[45, 32]⟩ : ByteArray).size + (joinB [32] ((ws.take j).map fun s => s.data.toList)).length ≤ (sourceL (L.map pt8)).length) := by
                refine hid fun j => ?_
                have := hle.out j
                rw [show markT 3 = [45, 32] from rfl, if_neg hk0, hSl.out] at this
                simp only [List.length_cons, List.length_nil] at this
                omega
              replace hk0 := hid hk0
              replace hT0z := hid hT0z
              replace hT0d := hid hT0d
              go_wp2_with (fail)
              go_loopw [4, 6] (fun t i wv => ∃ (j : Nat) (T : ByteArray), j ≤ ws.length ∧ i = .int .i64 j ∧ t = .string T ∧ T.data.toList = (S ++ ⟨#[10, 10]⟩ ++ ⟨#[45, 32]⟩).data.toList ++ joinB [32] ((ws.take j).map fun s => s.data.toList) ∧ T.size ≤ 245 ∧ wg = wv) (fun _ i _ => ws.length - (RowKit.intOf i).toNat)
              case atStart => exact ⟨0, S ++ ⟨#[10, 10]⟩ ++ ⟨#[45, 32]⟩, Nat.zero_le _, rfl, rfl, by simp [joinB], hT0s, rfl⟩
              case round =>
                obtain ⟨j, T, hj, rfl, rfl, hT2, hTs, rfl⟩ := hrel
                replace hT2 := hid hT2
                by_cases hjl : j < ws.length
                · have hjI : (j : Int) < (ws.length : Int) := by omega
                  obtain ⟨xb, xo, cap3, he, h5, h6, hc3⟩ := sw.open (by rintro rfl; simp at hjl)
                  simp only [Value.slice.injEq] at he
                  obtain ⟨rfl, -, rfl⟩ := he
                  have hcj := rangeAt_one (hc3 j ws[j] (List.getElem?_eq_getElem hjl))
                  rw [Nat.mul_one] at hcj
                  have hUs := hwz.out ws[j] (List.getElem_mem _)
                  have hjt : Hid (joinB [32] ((ws.take (j + 1)).map fun s => s.data.toList) = joinB [32] ((ws.take j).map fun s => s.data.toList) ++ (if j = 0 then [] else [32]) ++ ws[j].data.toList) := by
                    have h9 : j < (ws.map fun s => s.data.toList).length := by simpa using hjl
                    have := joinB_take [32] h9
                    rw [← List.map_take, ← List.map_take, List.getElem_map] at this
                    exact hid this
                  clear hc3
                  generalize ws[j] = U at *
                  by_cases hjz : j = 0
                  · have hj0 : ¬ (0 : Int) < (j : Int) := by omega
                    have hU : (T ++ U : ByteArray).data.toList = (S ++ ⟨#[10, 10]⟩ ++ ⟨#[45, 32]⟩).data.toList ++ joinB [32] ((ws.take (j + 1)).map fun s => s.data.toList) := by
                      rw [hjt.out, if_pos hjz]
                      simp only [ByteArray.data_append, Array.toList_append, hT2.out, List.append_assoc, List.nil_append]
                    have hUz : (T ++ U : ByteArray).size = T.size + U.size := by
                      exact ByteArray.size_append
                    have hUl : (T ++ U : ByteArray).size = (S ++ ⟨#[10, 10]⟩ ++ ⟨#[45, 32]⟩).size + (joinB [32] ((ws.take (j + 1)).map fun s => s.data.toList)).length := by
                      rw [← size8, hU, List.length_append, size8]
                    have hb1 := hbnd.out (j + 1)
                    replace hU := hid hU
                    replace hjz := hid hjz
                    by_cases hbig : 240 < (T ++ U : ByteArray).size
                    · have hbI : (240 : Int) < ((T ++ U : ByteArray).size : Int) := by omega
                      have hbJ : (240 : Int) < (T.size : Int) + (U.size : Int) := by omega
                      have hsrc : 240 < (sourceL (L.map pt8)).length := by omega
                      have hsz9 := hUz
                      replace hUz := hid hUz
                      replace hUl := hid hUl
                      go_wp2_with (fail)
                      go_ret2
                      exact ⟨⟨#[]⟩, 11, rfl, by rw [hR.out, if_neg (fun h => by have := h.2; omega)], bg⟩
                    · have hbI : ¬ (240 : Int) < ((T ++ U : ByteArray).size : Int) := by omega
                      have hbJ : ¬ (240 : Int) < (T.size : Int) + (U.size : Int) := by omega
                      replace hUz := hid hUz
                      replace hUl := hid hUl
                      go_wp2_with (fail)
                      refine ⟨⟨j + 1, T ++ U, by omega, by go_num, rfl, hU.out, by omega, by trivial⟩, by simp [RowKit.intOf]; omega⟩
                  · have hj0 : (0 : Int) < (j : Int) := by omega
                    have hU : (T ++ ⟨#[32]⟩ ++ U : ByteArray).data.toList = (S ++ ⟨#[10, 10]⟩ ++ ⟨#[45, 32]⟩).data.toList ++ joinB [32] ((ws.take (j + 1)).map fun s => s.data.toList) := by
                      rw [hjt.out, if_neg hjz]
                      simp only [ByteArray.data_append, Array.toList_append, hT2.out, List.append_assoc]
                    have hUz : (T ++ ⟨#[32]⟩ ++ U : ByteArray).size = T.size + 1 + U.size := by
                      rw [ByteArray.size_append, ByteArray.size_append]; rfl
                    have hUl : (T ++ ⟨#[32]⟩ ++ U : ByteArray).size = (S ++ ⟨#[10, 10]⟩ ++ ⟨#[45, 32]⟩).size + (joinB [32] ((ws.take (j + 1)).map fun s => s.data.toList)).length := by
                      rw [← size8, hU, List.length_append, size8]
                    have hb1 := hbnd.out (j + 1)
                    replace hU := hid hU
                    replace hjz := hid hjz
                    by_cases hbig : 240 < (T ++ ⟨#[32]⟩ ++ U : ByteArray).size
                    · have hbI : (240 : Int) < ((T ++ ⟨#[32]⟩ ++ U : ByteArray).size : Int) := by omega
                      have hbJ : (240 : Int) < (T.size : Int) + 1 + (U.size : Int) := by omega
                      have hsrc : 240 < (sourceL (L.map pt8)).length := by omega
                      have hsz9 := hUz
                      replace hUz := hid hUz
                      replace hUl := hid hUl
                      go_wp2_with (fail)
                      go_ret2
                      exact ⟨⟨#[]⟩, 11, rfl, by rw [hR.out, if_neg (fun h => by have := h.2; omega)], bg⟩
                    · have hbI : ¬ (240 : Int) < ((T ++ ⟨#[32]⟩ ++ U : ByteArray).size : Int) := by omega
                      have hbJ : ¬ (240 : Int) < (T.size : Int) + 1 + (U.size : Int) := by omega
                      replace hUz := hid hUz
                      replace hUl := hid hUl
                      go_wp2_with (fail)
                      refine ⟨⟨j + 1, T ++ ⟨#[32]⟩ ++ U, by omega, by go_num, rfl, hU.out, by omega, by trivial⟩, by simp [RowKit.intOf]; omega⟩
                · obtain rfl : j = ws.length := by omega
                  have hfin : T.data.toList = sourceL ((L.take (k + 1)).map pt8) := by
                    rw [hT2.out, hT0d.out, List.take_length, hst.out, hS.out, if_neg hk0.out]
                    simp
                  have hTl : T.size = (S ++ ⟨#[10, 10]⟩ ++ ⟨#[45, 32]⟩).size + (joinB [32] ((ws.take ws.length).map fun s => s.data.toList)).length := by
                    rw [← size8, hT2.out, List.length_append, size8]
                  have hb1 := hbnd.out ws.length
                  replace hfin := hid hfin
                  by_cases hbig : 240 < T.size
                  · have hbI : (240 : Int) < (T.size : Int) := by omega
                    have hsrc : 240 < (sourceL (L.map pt8)).length := by omega
                    replace hTl := hid hTl
                    go_wp2_with (fail)
                    go_ret2
                    exact ⟨⟨#[]⟩, 11, rfl, by rw [hR.out, if_neg (fun h => by have := h.2; omega)], bg⟩
                  · have hbI : ¬ (240 : Int) < (T.size : Int) := by omega
                    replace hTl := hid hTl
                    go_wp2_with (fail)
                    refine ⟨⟨k + 1, T, by omega, by go_num, rfl, hfin.out, by omega, by trivial⟩, by simp [RowKit.intOf]; omega⟩
            · by_cases k4 : kd = 4
              · subst k4
                have hki : (0 : Int) < (k : Int) := by omega
                have hT0z : (S ++ ⟨#[10, 10]⟩ ++ ⟨#[45, 45, 45]⟩ : ByteArray).size = S.size + 2 + 3 := by simp only [ByteArray.size_append]; rfl
                have hT0s : (S ++ ⟨#[10, 10]⟩ ++ ⟨#[45, 45, 45]⟩ : ByteArray).size ≤ 245 := by omega
                have hT0d : (S ++ ⟨#[10, 10]⟩ ++ ⟨#[45, 45, 45]⟩ : ByteArray).data.toList = S.data.toList ++ (if False then [] else [10, 10]) ++ markT 4 := by
                  rw [show markT 4 = [45, 45, 45] from rfl, if_neg not_false]
                  simp [ByteArray.data_append]
                have hbnd : Hid (∀ j, (S ++ ⟨#[10, 10]⟩ ++ ⟨#[45, 45, 45]⟩ : ByteArray).size + (joinB [32] ((ws.take j).map fun s => s.data.toList)).length ≤ (sourceL (L.map pt8)).length) := by
                  refine hid fun j => ?_
                  have := hle.out j
                  rw [show markT 4 = [45, 45, 45] from rfl, if_neg hk0, hSl.out] at this
                  simp only [List.length_cons, List.length_nil] at this
                  omega
                replace hk0 := hid hk0
                replace hT0z := hid hT0z
                replace hT0d := hid hT0d
                go_wp2_with (fail)
                go_loopw [4, 6] (fun t i wv => ∃ (j : Nat) (T : ByteArray), j ≤ ws.length ∧ i = .int .i64 j ∧ t = .string T ∧ T.data.toList = (S ++ ⟨#[10, 10]⟩ ++ ⟨#[45, 45, 45]⟩).data.toList ++ joinB [32] ((ws.take j).map fun s => s.data.toList) ∧ T.size ≤ 245 ∧ wg = wv) (fun _ i _ => ws.length - (RowKit.intOf i).toNat)
                case atStart => exact ⟨0, S ++ ⟨#[10, 10]⟩ ++ ⟨#[45, 45, 45]⟩, Nat.zero_le _, rfl, rfl, by simp [joinB], hT0s, rfl⟩
                case round =>
                  obtain ⟨j, T, hj, rfl, rfl, hT2, hTs, rfl⟩ := hrel
                  replace hT2 := hid hT2
                  by_cases hjl : j < ws.length
                  · have hjI : (j : Int) < (ws.length : Int) := by omega
                    obtain ⟨xb, xo, cap3, he, h5, h6, hc3⟩ := sw.open (by rintro rfl; simp at hjl)
                    simp only [Value.slice.injEq] at he
                    obtain ⟨rfl, -, rfl⟩ := he
                    have hcj := rangeAt_one (hc3 j ws[j] (List.getElem?_eq_getElem hjl))
                    rw [Nat.mul_one] at hcj
                    have hUs := hwz.out ws[j] (List.getElem_mem _)
                    have hjt : Hid (joinB [32] ((ws.take (j + 1)).map fun s => s.data.toList) = joinB [32] ((ws.take j).map fun s => s.data.toList) ++ (if j = 0 then [] else [32]) ++ ws[j].data.toList) := by
                      have h9 : j < (ws.map fun s => s.data.toList).length := by simpa using hjl
                      have := joinB_take [32] h9
                      rw [← List.map_take, ← List.map_take, List.getElem_map] at this
                      exact hid this
                    clear hc3
                    generalize ws[j] = U at *
                    by_cases hjz : j = 0
                    · have hj0 : ¬ (0 : Int) < (j : Int) := by omega
                      have hU : (T ++ U : ByteArray).data.toList = (S ++ ⟨#[10, 10]⟩ ++ ⟨#[45, 45, 45]⟩).data.toList ++ joinB [32] ((ws.take (j + 1)).map fun s => s.data.toList) := by
                        rw [hjt.out, if_pos hjz]
                        simp only [ByteArray.data_append, Array.toList_append, hT2.out, List.append_assoc, List.nil_append]
                      have hUz : (T ++ U : ByteArray).size = T.size + U.size := by
                        exact ByteArray.size_append
                      have hUl : (T ++ U : ByteArray).size = (S ++ ⟨#[10, 10]⟩ ++ ⟨#[45, 45, 45]⟩).size + (joinB [32] ((ws.take (j + 1)).map fun s => s.data.toList)).length := by
                        rw [← size8, hU, List.length_append, size8]
                      have hb1 := hbnd.out (j + 1)
                      replace hU := hid hU
                      replace hjz := hid hjz
                      by_cases hbig : 240 < (T ++ U : ByteArray).size
                      · have hbI : (240 : Int) < ((T ++ U : ByteArray).size : Int) := by omega
                        have hbJ : (240 : Int) < (T.size : Int) + (U.size : Int) := by omega
                        have hsrc : 240 < (sourceL (L.map pt8)).length := by omega
                        have hsz9 := hUz
                        replace hUz := hid hUz
                        replace hUl := hid hUl
                        go_wp2_with (fail)
                        go_ret2
                        exact ⟨⟨#[]⟩, 11, rfl, by rw [hR.out, if_neg (fun h => by have := h.2; omega)], bg⟩
                      · have hbI : ¬ (240 : Int) < ((T ++ U : ByteArray).size : Int) := by omega
                        have hbJ : ¬ (240 : Int) < (T.size : Int) + (U.size : Int) := by omega
                        replace hUz := hid hUz
                        replace hUl := hid hUl
                        go_wp2_with (fail)
                        refine ⟨⟨j + 1, T ++ U, by omega, by go_num, rfl, hU.out, by omega, by trivial⟩, by simp [RowKit.intOf]; omega⟩
                    · have hj0 : (0 : Int) < (j : Int) := by omega
                      have hU : (T ++ ⟨#[32]⟩ ++ U : ByteArray).data.toList = (S ++ ⟨#[10, 10]⟩ ++ ⟨#[45, 45, 45]⟩).data.toList ++ joinB [32] ((ws.take (j + 1)).map fun s => s.data.toList) := by
                        rw [hjt.out, if_neg hjz]
                        simp only [ByteArray.data_append, Array.toList_append, hT2.out, List.append_assoc]
                      have hUz : (T ++ ⟨#[32]⟩ ++ U : ByteArray).size = T.size + 1 + U.size := by
                        rw [ByteArray.size_append, ByteArray.size_append]; rfl
                      have hUl : (T ++ ⟨#[32]⟩ ++ U : ByteArray).size = (S ++ ⟨#[10, 10]⟩ ++ ⟨#[45, 45, 45]⟩).size + (joinB [32] ((ws.take (j + 1)).map fun s => s.data.toList)).length := by
                        rw [← size8, hU, List.length_append, size8]
                      have hb1 := hbnd.out (j + 1)
                      replace hU := hid hU
                      replace hjz := hid hjz
                      by_cases hbig : 240 < (T ++ ⟨#[32]⟩ ++ U : ByteArray).size
                      · have hbI : (240 : Int) < ((T ++ ⟨#[32]⟩ ++ U : ByteArray).size : Int) := by omega
                        have hbJ : (240 : Int) < (T.size : Int) + 1 + (U.size : Int) := by omega
                        have hsrc : 240 < (sourceL (L.map pt8)).length := by omega
                        have hsz9 := hUz
                        replace hUz := hid hUz
                        replace hUl := hid hUl
                        go_wp2_with (fail)
                        go_ret2
                        exact ⟨⟨#[]⟩, 11, rfl, by rw [hR.out, if_neg (fun h => by have := h.2; omega)], bg⟩
                      · have hbI : ¬ (240 : Int) < ((T ++ ⟨#[32]⟩ ++ U : ByteArray).size : Int) := by omega
                        have hbJ : ¬ (240 : Int) < (T.size : Int) + 1 + (U.size : Int) := by omega
                        replace hUz := hid hUz
                        replace hUl := hid hUl
                        go_wp2_with (fail)
                        refine ⟨⟨j + 1, T ++ ⟨#[32]⟩ ++ U, by omega, by go_num, rfl, hU.out, by omega, by trivial⟩, by simp [RowKit.intOf]; omega⟩
                  · obtain rfl : j = ws.length := by omega
                    have hfin : T.data.toList = sourceL ((L.take (k + 1)).map pt8) := by
                      rw [hT2.out, hT0d.out, List.take_length, hst.out, hS.out, if_neg hk0.out]
                      simp
                    have hTl : T.size = (S ++ ⟨#[10, 10]⟩ ++ ⟨#[45, 45, 45]⟩).size + (joinB [32] ((ws.take ws.length).map fun s => s.data.toList)).length := by
                      rw [← size8, hT2.out, List.length_append, size8]
                    have hb1 := hbnd.out ws.length
                    replace hfin := hid hfin
                    by_cases hbig : 240 < T.size
                    · have hbI : (240 : Int) < (T.size : Int) := by omega
                      have hsrc : 240 < (sourceL (L.map pt8)).length := by omega
                      replace hTl := hid hTl
                      go_wp2_with (fail)
                      go_ret2
                      exact ⟨⟨#[]⟩, 11, rfl, by rw [hR.out, if_neg (fun h => by have := h.2; omega)], bg⟩
                    · have hbI : ¬ (240 : Int) < (T.size : Int) := by omega
                      replace hTl := hid hTl
                      go_wp2_with (fail)
                      refine ⟨⟨k + 1, T, by omega, by go_num, rfl, hfin.out, by omega, by trivial⟩, by simp [RowKit.intOf]; omega⟩
              · have k2b : (kd == 2) = false := by simpa using k2
                have k3b : (kd == 3) = false := by simpa using k3
                have k4b : (kd == 4) = false := by simpa using k4
                have hmk : markT kd = [] := by unfold markT; rw [if_neg k2, if_neg k3, if_neg k4]
                replace hmk := hid hmk
                replace k2 := hid k2
                replace k3 := hid k3
                replace k4 := hid k4
                have hki : (0 : Int) < (k : Int) := by omega
                have hT0z : (S ++ ⟨#[10, 10]⟩ : ByteArray).size = S.size + 2 := by simp only [ByteArray.size_append]; rfl
                have hT0s : (S ++ ⟨#[10, 10]⟩ : ByteArray).size ≤ 245 := by omega
                have hT0d : (S ++ ⟨#[10, 10]⟩ : ByteArray).data.toList = S.data.toList ++ (if False then [] else [10, 10]) ++ markT kd := by
                  rw [hmk.out, if_neg not_false]
                  simp [ByteArray.data_append]
                have hbnd : Hid (∀ j, (S ++ ⟨#[10, 10]⟩ : ByteArray).size + (joinB [32] ((ws.take j).map fun s => s.data.toList)).length ≤ (sourceL (L.map pt8)).length) := by
                  refine hid fun j => ?_
                  have := hle.out j
                  rw [hmk.out, if_neg hk0, hSl.out] at this
                  simp only [List.length_cons, List.length_nil] at this
                  omega
                replace hk0 := hid hk0
                replace hT0z := hid hT0z
                replace hT0d := hid hT0d
                go_wp2_with (fail)
                go_loopw [4, 6] (fun t i wv => ∃ (j : Nat) (T : ByteArray), j ≤ ws.length ∧ i = .int .i64 j ∧ t = .string T ∧ T.data.toList = (S ++ ⟨#[10, 10]⟩).data.toList ++ joinB [32] ((ws.take j).map fun s => s.data.toList) ∧ T.size ≤ 245 ∧ wg = wv) (fun _ i _ => ws.length - (RowKit.intOf i).toNat)
                case atStart => exact ⟨0, S ++ ⟨#[10, 10]⟩, Nat.zero_le _, rfl, rfl, by simp [joinB], hT0s, rfl⟩
                case round =>
                  obtain ⟨j, T, hj, rfl, rfl, hT2, hTs, rfl⟩ := hrel
                  replace hT2 := hid hT2
                  by_cases hjl : j < ws.length
                  · have hjI : (j : Int) < (ws.length : Int) := by omega
                    obtain ⟨xb, xo, cap3, he, h5, h6, hc3⟩ := sw.open (by rintro rfl; simp at hjl)
                    simp only [Value.slice.injEq] at he
                    obtain ⟨rfl, -, rfl⟩ := he
                    have hcj := rangeAt_one (hc3 j ws[j] (List.getElem?_eq_getElem hjl))
                    rw [Nat.mul_one] at hcj
                    have hUs := hwz.out ws[j] (List.getElem_mem _)
                    have hjt : Hid (joinB [32] ((ws.take (j + 1)).map fun s => s.data.toList) = joinB [32] ((ws.take j).map fun s => s.data.toList) ++ (if j = 0 then [] else [32]) ++ ws[j].data.toList) := by
                      have h9 : j < (ws.map fun s => s.data.toList).length := by simpa using hjl
                      have := joinB_take [32] h9
                      rw [← List.map_take, ← List.map_take, List.getElem_map] at this
                      exact hid this
                    clear hc3
                    generalize ws[j] = U at *
                    by_cases hjz : j = 0
                    · have hj0 : ¬ (0 : Int) < (j : Int) := by omega
                      have hU : (T ++ U : ByteArray).data.toList = (S ++ ⟨#[10, 10]⟩).data.toList ++ joinB [32] ((ws.take (j + 1)).map fun s => s.data.toList) := by
                        rw [hjt.out, if_pos hjz]
                        simp only [ByteArray.data_append, Array.toList_append, hT2.out, List.append_assoc, List.nil_append]
                      have hUz : (T ++ U : ByteArray).size = T.size + U.size := by
                        exact ByteArray.size_append
                      have hUl : (T ++ U : ByteArray).size = (S ++ ⟨#[10, 10]⟩).size + (joinB [32] ((ws.take (j + 1)).map fun s => s.data.toList)).length := by
                        rw [← size8, hU, List.length_append, size8]
                      have hb1 := hbnd.out (j + 1)
                      replace hU := hid hU
                      replace hjz := hid hjz
                      by_cases hbig : 240 < (T ++ U : ByteArray).size
                      · have hbI : (240 : Int) < ((T ++ U : ByteArray).size : Int) := by omega
                        have hbJ : (240 : Int) < (T.size : Int) + (U.size : Int) := by omega
                        have hsrc : 240 < (sourceL (L.map pt8)).length := by omega
                        have hsz9 := hUz
                        replace hUz := hid hUz
                        replace hUl := hid hUl
                        go_wp2_with (fail)
                        go_ret2
                        exact ⟨⟨#[]⟩, 11, rfl, by rw [hR.out, if_neg (fun h => by have := h.2; omega)], bg⟩
                      · have hbI : ¬ (240 : Int) < ((T ++ U : ByteArray).size : Int) := by omega
                        have hbJ : ¬ (240 : Int) < (T.size : Int) + (U.size : Int) := by omega
                        replace hUz := hid hUz
                        replace hUl := hid hUl
                        go_wp2_with (fail)
                        refine ⟨⟨j + 1, T ++ U, by omega, by go_num, rfl, hU.out, by omega, by trivial⟩, by simp [RowKit.intOf]; omega⟩
                    · have hj0 : (0 : Int) < (j : Int) := by omega
                      have hU : (T ++ ⟨#[32]⟩ ++ U : ByteArray).data.toList = (S ++ ⟨#[10, 10]⟩).data.toList ++ joinB [32] ((ws.take (j + 1)).map fun s => s.data.toList) := by
                        rw [hjt.out, if_neg hjz]
                        simp only [ByteArray.data_append, Array.toList_append, hT2.out, List.append_assoc]
                      have hUz : (T ++ ⟨#[32]⟩ ++ U : ByteArray).size = T.size + 1 + U.size := by
                        rw [ByteArray.size_append, ByteArray.size_append]; rfl
                      have hUl : (T ++ ⟨#[32]⟩ ++ U : ByteArray).size = (S ++ ⟨#[10, 10]⟩).size + (joinB [32] ((ws.take (j + 1)).map fun s => s.data.toList)).length := by
                        rw [← size8, hU, List.length_append, size8]
                      have hb1 := hbnd.out (j + 1)
                      replace hU := hid hU
                      replace hjz := hid hjz
                      by_cases hbig : 240 < (T ++ ⟨#[32]⟩ ++ U : ByteArray).size
                      · have hbI : (240 : Int) < ((T ++ ⟨#[32]⟩ ++ U : ByteArray).size : Int) := by omega
                        have hbJ : (240 : Int) < (T.size : Int) + 1 + (U.size : Int) := by omega
                        have hsrc : 240 < (sourceL (L.map pt8)).length := by omega
                        have hsz9 := hUz
                        replace hUz := hid hUz
                        replace hUl := hid hUl
                        go_wp2_with (fail)
                        go_ret2
                        exact ⟨⟨#[]⟩, 11, rfl, by rw [hR.out, if_neg (fun h => by have := h.2; omega)], bg⟩
                      · have hbI : ¬ (240 : Int) < ((T ++ ⟨#[32]⟩ ++ U : ByteArray).size : Int) := by omega
                        have hbJ : ¬ (240 : Int) < (T.size : Int) + 1 + (U.size : Int) := by omega
                        replace hUz := hid hUz
                        replace hUl := hid hUl
                        go_wp2_with (fail)
                        refine ⟨⟨j + 1, T ++ ⟨#[32]⟩ ++ U, by omega, by go_num, rfl, hU.out, by omega, by trivial⟩, by simp [RowKit.intOf]; omega⟩
                  · obtain rfl : j = ws.length := by omega
                    have hfin : T.data.toList = sourceL ((L.take (k + 1)).map pt8) := by
                      rw [hT2.out, hT0d.out, List.take_length, hst.out, hS.out, if_neg hk0.out]
                      simp
                    have hTl : T.size = (S ++ ⟨#[10, 10]⟩).size + (joinB [32] ((ws.take ws.length).map fun s => s.data.toList)).length := by
                      rw [← size8, hT2.out, List.length_append, size8]
                    have hb1 := hbnd.out ws.length
                    replace hfin := hid hfin
                    by_cases hbig : 240 < T.size
                    · have hbI : (240 : Int) < (T.size : Int) := by omega
                      have hsrc : 240 < (sourceL (L.map pt8)).length := by omega
                      replace hTl := hid hTl
                      go_wp2_with (fail)
                      go_ret2
                      exact ⟨⟨#[]⟩, 11, rfl, by rw [hR.out, if_neg (fun h => by have := h.2; omega)], bg⟩
                    · have hbI : ¬ (240 : Int) < (T.size : Int) := by omega
                      replace hTl := hid hTl
                      go_wp2_with (fail)
                      refine ⟨⟨k + 1, T, by omega, by go_num, rfl, hfin.out, by omega, by trivial⟩, by simp [RowKit.intOf]; omega⟩
      · obtain rfl : k = L.length := by omega
        rw [List.take_length] at hS
        have hRf : sourceR L = (S.data.toList, 0) := by rw [hR.out, if_pos ⟨hg, by rw [← hS, size8]; exact hSs⟩, hS]
        replace hS := hid hS
        replace hRf := hid hRf
        go_wp2_with (fail)
        go_ret2
        exact ⟨S, 0, rfl, hRf.out.symm, bg⟩
  · have hgf : allG L = false := by simpa using hg
    simp only [hgf]
    rw [if_neg (fun h => hg h.1)] at hR
    replace hR := hid hR
    go_wp2_with (fail)
    go_ret2
    exact ⟨⟨#[]⟩, 11, rfl, hR.out.symm, bg⟩
end Go.Proofs.YtgbfekimflnaiaaDoor
