/- Plain laws of LinesOne: a heading that fits has one line. The walk of the document's Good, of styles (printed by gen_lpa.py). The walk of keep.Pieces, of alike ones. -/
import Derived.Test.YtempicociampoaaDoorJ21
import Derived.Test.YtempicociampoaaDoorMkX
import Derived.Test.YtempicociampoaaDoorJ14
import Derived.Deep.DeepCutAuto
import Derived.Deep.QuietTactic
import Derived.Test.YtempicociampoaaDoorJ1
import Derived.BigQuiet
namespace Go.Proofs.YtempicociampoaaDoor
open Go.RowKit Go.Shelf Go.Lib

theorem txt_le4 : ∀ {ys : List Int}, (∀ y ∈ ys, okv y) → (txt ys).length ≤ 4 * ys.length
  | [], _ => by simp [txt]
  | y :: ys, h => by
    have h1 := enc_len (h y (by simp))
    have h2 := txt_le4 (ys := ys) (fun z hz => h z (by simp [hz]))
    rw [txt_cons, List.length_append, List.length_cons]; omega
theorem sumw_three : ∀ l : List Int, 3 * (l.length : Int) ≤ sumw l
  | [] => by simp [sumw]
  | x :: l => by
    have := sumw_three l
    have hw : 3 ≤ width x := by unfold width; split <;> (try split) <;> (try split) <;> (try split) <;> (try split) <;> omega
    simp only [sumw, List.map_cons, List.sum_cons, List.length_cons] at this ⊢
    omega
/-- a word that is not wide is not long -/
theorem goodW_size {T : ByteArray} (h : goodW T.data.toList) (hw : tm T ≤ 400) : okW T := by
  obtain ⟨h1, ⟨hv, -⟩, -⟩ := h
  refine ⟨fun h9 => h1 (List.eq_nil_of_length_eq_zero (by rw [size_toList]; exact h9)), ?_⟩
  obtain ⟨h2, h3⟩ := sgn_yes hv
  have h4 := txt_le4 h2
  have h5 := sumw_three (sgn T.data.toList)
  have h6 : T.data.toList.length = T.size := size_toList T
  rw [h3] at h6
  unfold tm at hw
  rw [← h3] at h4
  rw [← h3] at h6
  omega
theorem head_len (ind c : Int) (ws : List ByteArray) : ∀ k, (itemsTo 2 ind c ws k).length ≤ 2 * k
  | 0 => by show (beginI 2 ind).length ≤ 0; unfold beginI; rw [if_neg (by omega), if_neg (by omega)]; simp
  | k + 1 => by
    have := head_len ind c ws k
    rw [itemsTo, if_pos rfl, List.length_append, List.length_append, List.length_singleton]
    split <;> simp <;> omega
/-- how wide a heading's first k words are -/
noncomputable def wideW (ws : List ByteArray) (k : Nat) : Int := if k = 0 then 0 else posW ws k - 4
theorem wideW_succ (ws : List ByteArray) (k : Nat) : wideW ws (k + 1) = (if 0 < k then wideW ws k + 4 else wideW ws k) + tm (ws.getD k eb0) := by
  unfold wideW
  rw [if_neg (by omega)]
  show posW ws k + tm (ws.getD k eb0) + 4 - 4 = _
  by_cases h : k = 0
  · subst h; rw [if_neg (by omega), if_pos rfl]; show 0 + _ + 4 - 4 = _; omega
  · rw [if_pos (by omega), if_neg h]; omega
theorem wideW_mono (ws : List ByteArray) : ∀ k, 0 ≤ wideW ws k ∧ ∀ i, i < k → tm (ws.getD i eb0) ≤ wideW ws k
  | 0 => ⟨by unfold wideW; rw [if_pos rfl]; omega, fun i h => by omega⟩
  | k + 1 => by
    obtain ⟨h1, h2⟩ := wideW_mono ws k
    have h3 := (tm_bd (ws.getD k eb0)).1
    rw [wideW_succ]
    refine ⟨by split <;> omega, fun i hi => ?_⟩
    by_cases e : i = k
    · subst e; split <;> omega
    · have := h2 i (by omega)
      split <;> omega
theorem posW_bd (ws : List ByteArray) (B : Nat) (hB : ∀ s ∈ ws, s.size ≤ B) : ∀ k, 0 ≤ posW ws k ∧ posW ws k ≤ (10 * B + 4) * k
  | 0 => ⟨by show (0 : Int) ≤ 0; omega, by show (0 : Int) ≤ _; simp⟩
  | k + 1 => by
    obtain ⟨h1, h2⟩ := posW_bd ws B hB k
    have h3 := tm_bd (ws.getD k eb0)
    have h4 : (ws.getD k eb0).size ≤ B := by
      by_cases hk : k < ws.length
      · rw [List.getD_eq_getElem?_getD, List.getElem?_eq_getElem hk]; exact hB _ (List.getElem_mem _)
      · rw [List.getD_eq_getElem?_getD, List.getElem?_eq_none (by omega)]; exact Nat.zero_le _
    have h5 : posW ws (k + 1) = posW ws k + tm (ws.getD k eb0) + 4 := rfl
    rw [h5, show (((k + 1 : Nat) : Int)) = (k : Int) + 1 by omega, Int.mul_add, Int.mul_one]
    constructor
    · omega
    · omega
/-- a heading that fits: one line, unstretched -/
theorem one_head {a c d e : Int} {ws : List ByteArray} (hw : ∀ s ∈ ws, okW s) (hne : ws ≠ []) (hn : ws.length ≤ 12) (ha : 40 ≤ a ∧ a ≤ 400) (hc : 0 ≤ c ∧ c ≤ 10000) (hf : wideW ws ws.length ≤ a) :
    ofL 2 ws a c d e = [⟨2, true, true, false, (List.range ws.length).map fun i => (posW ws i, ws.getD i eb0)⟩] := by
  have hio : itemsOf 2 e d ws = itemsTo 2 e d ws ws.length := by unfold itemsOf; rw [if_neg (by omega)]
  have hpos : 0 < ws.length := List.length_pos_iff.2 hne
  obtain ⟨n, hn1⟩ : ∃ n, ws.length = n + 1 := ⟨ws.length - 1, by omega⟩
  have hwl : Wl tm (itemsOf 2 e d ws) := by rw [hio, hn1]; exact items_wl 2 e d ws hw n (by omega)
  have h6 : (itemsOf 2 e d ws).length ≤ 600 := by rw [hio]; have := head_len e d ws ws.length; omega
  obtain ⟨h1, -⟩ := hwl.fst (n := -1) (.inl rfl)
  obtain ⟨x, hx, -⟩ := hwl.head
  have hb := (List.getElem?_eq_some_iff.1 hx).1
  obtain ⟨k1, k2⟩ := head_items e d ws hw ws.length (Nat.le_refl _)
  rw [← hio] at k1 k2
  have e1 : cutI a 0 10000 = a := by unfold cutI; omega
  have e2 : cutI c 0 10000 = c := by unfold cutI; omega
  have h0 : ((-1 : Int) + 1).toNat = 0 := rfl
  rw [h0] at h1
  have hm : mid (itemsOf 2 e d ws) 0 (itemsOf 2 e d ws).length = itemsOf 2 e d ws := by unfold mid; rw [List.take_length]; rfl
  have hlw : (lineSm (itemsOf 2 e d ws) 0 (itemsOf 2 e d ws).length).w = wideW ws ws.length := by
    unfold lineSm
    rw [if_pos hb, hm]
    have : penW (itemsOf 2 e d ws) (itemsOf 2 e d ws).length = 0 := by unfold penW; rw [List.getElem?_eq_none (Nat.le_refl _)]
    rw [this]
    unfold wideW
    dsimp only
    rw [k1]; omega
  rw [ofL_lines (by decide) hne, e1, e2]
  rw [one_line h6 (by rw [h1]; exact hb) hc.1 (by rw [h1, hlw]; omega) (plain_eq (by omega) (by omega)), h1, hm, k2]
end Go.Proofs.YtempicociampoaaDoor
namespace Go.Proofs.YtempicociampoaaDoor
open Go.RowKit Go.Shelf Go.Lib

/-- may a style be? -/
def goodS (a b c d e : Int) : Bool := decide (40 ≤ a ∧ a ≤ 400 ∧ 3 ≤ b ∧ b ≤ 20 ∧ 0 ≤ c ∧ c ≤ 10000 ∧ 0 ≤ d ∧ d ≤ 1000 ∧ 0 ≤ e ∧ e ≤ 30)
set_option maxRecDepth 100000 in
set_option maxHeartbeats 4000000 in
theorem rGoodS_any (a b c d e : Int) (w : World) : Calls Tryd.prog 4 #[.agg #[.int .i64 a, .int .i64 b, .int .i64 c, .int .i64 d, .int .i64 e]] w fun r w' => r = .returned (.bool (goodS a b c d e)) ∧ Below w.heap.size w w' := by
  have g1 := World.alloc_heap_new w (.cells #[.int .i64 a, .int .i64 b, .int .i64 c, .int .i64 d, .int .i64 e] 24)
  have B1 : Below w.heap.size w (w.alloc (.cells #[.int .i64 a, .int .i64 b, .int .i64 c, .int .i64 d, .int .i64 e] 24)) := (Below.refl _ w).alloc (Nat.le_refl _) _
  obtain ⟨n₀, hn₀⟩ : ∃ n, w.heap.size = n := ⟨_, rfl⟩
  obtain ⟨W1, hW1⟩ : ∃ W : World, W = w.alloc (.cells #[.int .i64 a, .int .i64 b, .int .i64 c, .int .i64 d, .int .i64 e] 24) := ⟨_, rfl⟩
  rw [← hW1, hn₀] at g1 B1
  rw [hn₀]
  have s0 : W1.cell? ⟨n₀, 0, none⟩ = some (.int .i64 a) := cell_blk (i := 0) g1 rfl
  have s1 : W1.cell? ⟨n₀, 1, none⟩ = some (.int .i64 b) := cell_blk (i := 1) g1 rfl
  have s2 : W1.cell? ⟨n₀, 2, none⟩ = some (.int .i64 c) := cell_blk (i := 2) g1 rfl
  have s3 : W1.cell? ⟨n₀, 3, none⟩ = some (.int .i64 d) := cell_blk (i := 3) g1 rfl
  have s4 : W1.cell? ⟨n₀, 4, none⟩ = some (.int .i64 e) := cell_blk (i := 4) g1 rfl
  clear g1
  by_cases h0 : 40 ≤ a
  · skip
    by_cases h1 : a ≤ 400
    · skip
      by_cases h2 : 3 ≤ b
      · skip
        by_cases h3 : b ≤ 20
        · skip
          by_cases h4 : 0 ≤ c
          · skip
            by_cases h5 : c ≤ 10000
            · skip
              by_cases h6 : 0 ≤ d
              · skip
                by_cases h7 : d ≤ 1000
                · skip
                  by_cases h8 : 0 ≤ e
                  · skip
                    by_cases h9 : e ≤ 30
                    · skip
                      have hq : goodS a b c d e = true := by unfold goodS; exact decide_eq_true ⟨h0, h1, h2, h3, h4, h5, h6, h7, h8, h9⟩
                      replace hq := hid hq
                      go_enter Tryd.func4, Tryd.ntmps4
                      go_upto_region 1 with (fail)
                      rw [← hW1]
                      clear hW1
                      try simp only [hn₀]
                      go_wp2_with (fail)
                      go_ret
                      exact ⟨by rw [hq.out]; rfl, B1⟩
                    · have hq : goodS a b c d e = false := by unfold goodS; exact decide_eq_false (fun h => h9 (by omega))
                      replace hq := hid hq
                      go_enter Tryd.func4, Tryd.ntmps4
                      go_upto_region 1 with (fail)
                      rw [← hW1]
                      clear hW1
                      try simp only [hn₀]
                      go_wp2_with (fail)
                      go_ret
                      exact ⟨by rw [hq.out]; rfl, B1⟩
                  · have hq : goodS a b c d e = false := by unfold goodS; exact decide_eq_false (fun h => h8 (by omega))
                    replace hq := hid hq
                    go_enter Tryd.func4, Tryd.ntmps4
                    go_upto_region 1 with (fail)
                    rw [← hW1]
                    clear hW1
                    try simp only [hn₀]
                    go_wp2_with (fail)
                    go_ret
                    exact ⟨by rw [hq.out]; rfl, B1⟩
                · have hq : goodS a b c d e = false := by unfold goodS; exact decide_eq_false (fun h => h7 (by omega))
                  replace hq := hid hq
                  go_enter Tryd.func4, Tryd.ntmps4
                  go_upto_region 1 with (fail)
                  rw [← hW1]
                  clear hW1
                  try simp only [hn₀]
                  go_wp2_with (fail)
                  go_ret
                  exact ⟨by rw [hq.out]; rfl, B1⟩
              · have hq : goodS a b c d e = false := by unfold goodS; exact decide_eq_false (fun h => h6 (by omega))
                replace hq := hid hq
                go_enter Tryd.func4, Tryd.ntmps4
                go_upto_region 1 with (fail)
                rw [← hW1]
                clear hW1
                try simp only [hn₀]
                go_wp2_with (fail)
                go_ret
                exact ⟨by rw [hq.out]; rfl, B1⟩
            · have hq : goodS a b c d e = false := by unfold goodS; exact decide_eq_false (fun h => h5 (by omega))
              replace hq := hid hq
              go_enter Tryd.func4, Tryd.ntmps4
              go_upto_region 1 with (fail)
              rw [← hW1]
              clear hW1
              try simp only [hn₀]
              go_wp2_with (fail)
              go_ret
              exact ⟨by rw [hq.out]; rfl, B1⟩
          · have hq : goodS a b c d e = false := by unfold goodS; exact decide_eq_false (fun h => h4 (by omega))
            replace hq := hid hq
            go_enter Tryd.func4, Tryd.ntmps4
            go_upto_region 1 with (fail)
            rw [← hW1]
            clear hW1
            try simp only [hn₀]
            go_wp2_with (fail)
            go_ret
            exact ⟨by rw [hq.out]; rfl, B1⟩
        · have hq : goodS a b c d e = false := by unfold goodS; exact decide_eq_false (fun h => h3 (by omega))
          replace hq := hid hq
          go_enter Tryd.func4, Tryd.ntmps4
          go_upto_region 1 with (fail)
          rw [← hW1]
          clear hW1
          try simp only [hn₀]
          go_wp2_with (fail)
          go_ret
          exact ⟨by rw [hq.out]; rfl, B1⟩
      · have hq : goodS a b c d e = false := by unfold goodS; exact decide_eq_false (fun h => h2 (by omega))
        replace hq := hid hq
        go_enter Tryd.func4, Tryd.ntmps4
        go_upto_region 1 with (fail)
        rw [← hW1]
        clear hW1
        try simp only [hn₀]
        go_wp2_with (fail)
        go_ret
        exact ⟨by rw [hq.out]; rfl, B1⟩
    · have hq : goodS a b c d e = false := by unfold goodS; exact decide_eq_false (fun h => h1 (by omega))
      replace hq := hid hq
      go_enter Tryd.func4, Tryd.ntmps4
      go_upto_region 1 with (fail)
      rw [← hW1]
      clear hW1
      try simp only [hn₀]
      go_wp2_with (fail)
      go_ret
      exact ⟨by rw [hq.out]; rfl, B1⟩
  · have hq : goodS a b c d e = false := by unfold goodS; exact decide_eq_false (fun h => h0 (by omega))
    replace hq := hid hq
    go_enter Tryd.func4, Tryd.ntmps4
    go_upto_region 1 with (fail)
    rw [← hW1]
    clear hW1
    try simp only [hn₀]
    go_wp2_with (fail)
    go_ret
    exact ⟨by rw [hq.out]; rfl, B1⟩
end Go.Proofs.YtempicociampoaaDoor
namespace Go.Proofs.YtempicociampoaaDoor
open Go.RowKit Go.Shelf

theorem neq_pc (x : Int × ByteArray) (w : World) : (binOp .neq 38 (.agg (encPc x).toArray) (.agg (encPc x).toArray)).run Tryd.prog w = .ok (.bool false) w := by
  simp only [binOp, Sem.run_bind, Op.equal, Op.maxDepth, encPc]
  have e := Tryd.underlying38
  simp [go_sem, e]

end Go.Proofs.YtempicociampoaaDoor
