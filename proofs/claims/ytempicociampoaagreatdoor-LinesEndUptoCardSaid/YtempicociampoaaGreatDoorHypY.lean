/- The walk of the reference's Numbers. -/
import Derived.Test.YtempicociampoaaGreatDoorJ3
import Derived.Test.YtempicociampoaaGreatDoorJ13
import Derived.Test.YtempicociampoaaGreatDoorJ10
import Derived.Test.YtempicociampoaaGreatDoorJ5
import Derived.Test.YtempicociampoaaGreatDoorJ14
namespace Go.Proofs.YtempicociampoaaGreatDoor
open Go.RowKit Go.Lib

/-- bytes as numbers -/
def bz (l : List UInt8) : List Int := l.map fun c => (c.toNat : Int)
def bv (l : List UInt8) : List Value := l.map fun c => Value.int .u8 c.toNat
theorem bz_enc (l : List UInt8) : (bz l).flatMap encB = bv l := by
 induction l with
 | nil => rfl
 | cons a l ih => simp only [bz, bv, List.map_cons, List.flatMap_cons] at ih ⊢; rw [ih]; rfl
theorem bz_str (l : List UInt8) : (strOfNums (bz l)).toList = l := by
 rw [ByteArray.toList_eq, strOfNums_data, bz, List.map_map]
 refine (List.map_congr_left fun c _ => ?_).trans (List.map_id l)
 simp

theorem Rpatterns_any (w : World) : Calls Tryz.prog 111 #[] w fun e w' => e = .returned (.slice (some ⟨w.heap.size, 0, none⟩) 18 18) ∧ w' = w.alloc (.cells (patTexts.map fun x => Value.string ⟨x.toArray⟩).toArray 9) := by
 go_enter Tryz.func111, Tryz.ntmps111
 go_wp2
 go_ret
 exact ⟨rfl, rfl⟩

/-- a window of a row -/
theorem Sl.win {α : Type} {w : World} {k : Nat} {enc : α → List Value} {b o n c : Nat} {l : List α} (h : Sl w k enc (.slice (some ⟨b, o, none⟩) n c) l) (hn : l.length = n) {f m c' : Nat} (hf : f + m ≤ n) (hc : m ≤ c') (hc' : c' ≤ maxLen) :
  Sl w k enc (.slice (some ⟨b, o + f * k, none⟩) m c') ((l.drop f).take m) := by
 rcases h with ⟨h1, -⟩ | ⟨a, cap, h1, h2, h3, h4, h5⟩
 ·cases h1
 ·simp only [Value.slice.injEq, Option.some.injEq] at h1
  obtain ⟨rfl, -, rfl⟩ := h1
  have hl : ((l.drop f).take m).length = m := by rw [List.length_take, List.length_drop]; omega
  have := Sl.mk (w := w) (k := k) (enc := enc) (l := (l.drop f).take m) (b := b) (o := o + f * k) (cap := c') (by omega) hc' (fun i x hi => ?_)
  ·rwa [hl] at this
  ·rw [List.getElem?_take] at hi
   split at hi
   ·rw [List.getElem?_drop] at hi
    have := h5 _ _ hi
    rwa [Nat.add_mul, ← Nat.add_assoc] at this
   ·cases hi
/-- a row of another type stands when one has grown -/
theorem owns_two {W W' : World} {base base' : Nat} {e e' : TypeId} {v v' : Value} {n n' : Nat} {xs xs' : List Value} (h : W.ownsRow base e 1 v n xs) (hg : W.grownBy W' v.ownBlock) (h2 : W.ownsRow base' e' 1 v' n' xs') (ht : e' ≠ e) :
  W'.ownsRow base' e' 1 v' n' xs' := by
 refine ⟨h2.1, ?_⟩
 rcases h2.2 with h3 | ⟨g, cap, cur, hv, hb, hh, r⟩
 ·exact .inl h3
 ·exact .inr ⟨g, cap, cur, hv, hb, owns_grown h hg hh ht, r⟩

theorem flat_snoc (l : List Int) : (l ++ [0]).flatMap encI = l.flatMap encI ++ [.int .i64 0] := by simp [encI]
/-- a slice off the block that is written stands -/
theorem Sl.grown {α : Type} {W W' : World} {k O : Nat} {enc : α → List Value} {p : Option Addr} {n c : Nat} {l : List α} (h : Sl W k enc (.slice p n c) l) (hg : W.grownBy W' (some O)) (hp : ∀ a, p = some a → a.block ≠ O) : Sl W' k enc (.slice p n c) l := by
 rcases h with h | ⟨a, cap, h1, h2, h3, h4, h5⟩
 ·exact .inl h
 ·refine .inr ⟨a, cap, h1, h2, h3, h4, fun i x hi j v hv => ?_⟩
  have h6 := h5 i x hi j v hv
  have ha : a.block ≠ O := hp a (by cases h1; rfl)
  have hlt : a.block < W.heap.size := by
   cases h7 : W.heap[a.block]? with
   | none => simp [World.cell?, h7] at h6
   | some o => exact (Array.getElem?_eq_some_iff.1 h7).1
  exact (World.cell?_of_block (a := ⟨a.block, a.off + i * k + j, none⟩) (hg.block a.block hlt (by simpa using ha))).trans h6
theorem sl_row {W : World} {b : Nat} {t : TypeId} {l : List Int} (h : W.heap[b]? = some (.cells (atVals l) t (0, 0))) (hl : l.length ≤ maxLen) : Sl W 1 encI (.slice (some ⟨b, 0, none⟩) l.length l.length) l := by
 refine Sl.mk (Nat.le_refl _) hl (fun i x hi j v hv => ?_)
 have hj : j = 0 := by
  have := (List.getElem?_eq_some_iff.1 hv).1
  simp [encI] at this; exact this
 subst hj
 simp only [encI, List.getElem?_cons_zero, Option.some.injEq] at hv
 subst hv
 refine cell_blk h ?_
 simp only [atVals, Nat.mul_one, Nat.add_zero, Nat.zero_add, List.getElem?_toArray, List.getElem?_map, hi, Option.map_some]
theorem okv_rng {x : Int} (h : okv x) : 0 ≤ x ∧ x ≤ 1114111 := ⟨h.1, h.2.1⟩

set_option maxRecDepth 100000 in
set_option maxHeartbeats 4000000 in
theorem RNumbers_any (s : ByteArray) (w : World) (hs : s.size ≤ 2000000) :
  Calls Tryz.prog 91 #[.string s] w fun e w' => ∃ v, e = .returned v ∧ Sl w' 1 encI v (numbersL s.data.toList) ∧ Below w.heap.size w w' := by
 have hc1 := hid (RSigns_any s w (by omega))
 have hc3 := hid Rpatterns_any
 have hv1 := fun h => @sgn_yes s.data.toList h
 have hv0 := fun h => @numbers_invalid s.data.toList h
 have hsl : (sgn s.data.toList).length ≤ 2000000 := by
  by_cases hv : validD s.data.toList = true
  ·obtain ⟨h1, h2⟩ := hv1 hv
   have h3 := len_txt h1
   rw [← h2] at h3
   have : s.data.toList.length = s.size := by rw [Array.length_toList]; rfl
   omega
  ·rw [sgn_no (by simpa using hv)]; simp
 have hnr : validD s.data.toList = true → numbersL s.data.toList = if (sgn s.data.toList).all letter = true ∧ 2 ≤ (sgn s.data.toList).length ∧ (sgn s.data.toList).length ≤ 60 then numsOf (lowL (sgn s.data.toList)) else [] := by
  intro h
  obtain ⟨h1, h2⟩ := hv1 h
  rw [← numbers_ref h1, ← h2]
 have hok : validD s.data.toList = true → ∀ x ∈ sgn s.data.toList, okv x := fun h => (hv1 h).1
 clear hv1
 replace hnr := hid hnr
 replace hok := hid hok
 replace hv0 := hid hv0
 generalize numbersL s.data.toList = NL at *
 generalize validD s.data.toList = vd at *
 generalize sgn s.data.toList = L at *
 obtain ⟨i0, hi, hz0, hz1, hz2⟩ := info_parts Tryz.infoI
 obtain ⟨i1, hi1, hy0, hy1, hy2⟩ := info_parts Tryz.infoU8
 go_enter Tryz.func91, Tryz.ntmps91
 go_wp2_with (fail)
 refine hc1.out.mono ?_
 rintro e w1 ⟨v, rfl, hsl1, hB1⟩
 obtain ⟨pu, cu, rfl, hu⟩ := hsl1.shape
 have hb2 := World.alloc_heap_new w1 (.cells #[.slice pu L.length cu, .bool vd] 111)
 have hB2 := hB1.alloc hB1.size (.cells #[.slice pu L.length cu, .bool vd] 111)
 have hsl2 := (Kept.alloc 0 w1 (.cells #[.slice pu L.length cu, .bool vd] 111)).sl hsl1
 have hz2w : (w1.alloc (.cells #[.slice pu L.length cu, .bool vd] 111)).heap.size = w1.heap.size + 1 := by simp
 have hbz := hB1.size
 cases vd
 ·go_wp2_with (fail)
  go_ret
  refine ⟨_, rfl, ?_, hB2⟩
  rw [hv0.out (by trivial)]
  exact .inl ⟨rfl, rfl⟩
 ·replace hnr := hid (hnr.out (by trivial))
  replace hok := hid (hok.out (by trivial))
  clear hv0
  by_cases c1 : (L.length : Int) < 2
  ·go_wp2_with (fail)
   go_ret
   refine ⟨_, rfl, ?_, hB2⟩
   rw [hnr.out, if_neg (by omega)]
   exact .inl ⟨rfl, rfl⟩
  ·by_cases c2 : (60 : Int) < L.length
   ·go_wp2_with (fail)
    go_ret
    refine ⟨_, rfl, ?_, hB2⟩
    rw [hnr.out, if_neg (by omega)]
    exact .inl ⟨rfl, rfl⟩
   ·go_wp2_with (fail)
    generalize w1.alloc (.cells #[.slice pu L.length cu, .bool true] 111) = w2 at *
    clear hsl1 hB1
    generalize w1.heap.size = b at *
    have hne : L ≠ [] := by rintro rfl; simp at c1
    obtain ⟨nb, no, cap, e1, e2, e3, e4⟩ := hsl2.open hne
    simp only [Value.slice.injEq] at e1
    obtain ⟨rfl, -, rfl⟩ := e1
    have hLc : ∀ k (hk : k < L.length), w2.cell? ⟨nb, no + k, none⟩ = some (.int .i64 L[k]) := by
     intro k hk
     have h1 := rangeAt_one (e4 k L[k] (List.getElem?_eq_getElem hk))
     rwa [Nat.mul_one] at h1
    have hnlt : nb < w2.heap.size := by
     have h := hLc 0 (by omega)
     cases h5 : w2.heap[nb]? with
     | none => simp [World.cell?, h5] at h
     | some o => exact (Array.getElem?_eq_some_iff.1 h5).1
    have hLr := hid (fun k (hk : k < L.length) => okv_rng (hok.out _ (List.getElem_mem hk)))
    clear e4 hsl2 hu
    go_loopw [4, 5] (fun v i wr => ∃ k : Nat, k ≤ L.length ∧ i = .int .i64 k ∧ (∃ u, v = u ∧ wr.ownsRow (b + 1) 5 1 u (k + 1) (bv (46 :: lowL (L.take k)))) ∧ (L.take k).all letter = true ∧ Below (b + 1) w2 wr) (fun _ i _ => L.length - (RowKit.intOf i).toNat)
    case atStart =>
     refine ⟨0, Nat.zero_le _, rfl, ⟨_, rfl, ?_⟩, rfl, (Below.refl _ _).alloc (by omega) _⟩
     refine ⟨rfl, .inr ⟨b + 1, 1, #[.int .u8 46], rfl, by omega, by rw [← hz2w]; exact World.alloc_heap_new w2 _, Nat.le_refl _, by decide, rfl, rfl⟩⟩
    case round =>
     obtain ⟨k, hk, rfl, ⟨_, rfl, hrow⟩, hall, hB⟩ := hrel
     obtain ⟨pv, cv, rfl, hw1, hw2⟩ := owns_shape hrow
     unfold maxLen at hw2
     have hbr := (hB.block b (by omega)).trans hb2
     have hb0 := cell_blk hbr (i := 0) rfl
     have hb1 := cell_blk hbr (i := 1) rfl
     by_cases hkl : k < L.length
     ·have hck := (hB.cell (p := ⟨nb, no + k, none⟩) (by simp only []; omega)).trans (hLc k hkl)
      have hrg := hLr.out k hkl
      have htk : L.take (k + 1) = L.take k ++ [L[k]] := List.take_succ_eq_append_getElem hkl
      replace htk := hid htk
      clear hLc
      generalize L[k] = x at *
      have cL := hid (fun w' => RLetter_any x w' (by omega) (by omega))
      have cW := hid (fun w' => RLower_any x w' (by omega) (by omega))
      by_cases hlet : letter x = true
      ·rw [hlet] at cL
       have hxl := letter_asc hlet
       have hlo : (lower x).toNat < 128 ∧ 0 ≤ lower x := by unfold lower; split <;> omega
       generalize hlx : lower x = y at *
       have hwy : IntKind.u8.wrap y = y := IntWalk.u8_in _ (by omega)
       have hrn := hid (show bv (46 :: lowL (L.take (k + 1))) = bv (46 :: lowL (L.take k)) ++ [.int .u8 y] by
        have e : ((y.toNat.toUInt8).toNat : Int) = y := by rw [show (y.toNat.toUInt8).toNat = y.toNat % 256 by simp]; omega
        rw [htk.out]
        simp only [bv, lowL, List.map_append, List.map_cons, List.map_nil, List.cons_append, hlx]
        rw [e])
       replace htk := hid (show (L.take (k + 1)).all letter = true by rw [htk.out, List.all_append, hall]; simp [hlet])
       clear hlx hall
       go_wp2_with (fail)
       refine (cL.out _).mono ?_
       rintro e w' ⟨rfl, rfl⟩
       go_wp2_with (fail)
       refine (cW.out _).mono ?_
       rintro e w' ⟨rfl, rfl⟩
       go_wp2_with (at_builtin; go_must (refine wpList_append_own _ rfl _ _ 66 rfl (b + 1) 5 i1 (.int .u8 0) 1 1 Tryz.underlying66 hi1 hy0 hy1 hy2 rfl (by decide) _ _ _ rfl (hrow.alloc _) ⟨_, 0, none⟩ 1 1 [.int .u8 y] rfl rfl (cells_new _ _ _) (by simp [Value.oneCell']) (by unfold maxLen; omega) (by omega) (by have := hB.size; simp; omega) ?_; intro v' w3 hown' hgrow _))
       have hB3 := hB.alloc (by have := hB.size; omega) (.cells #[.int .u8 y] 5)
       refine ⟨⟨k + 1, by omega, by go_num, ⟨_, rfl, by rw [hrn.out]; exact hown'⟩, htk.out, hB3.grown hgrow (by have := hB3.size; omega) (fun j e => own_base hrow e)⟩, by simp [RowKit.intOf]; omega⟩
      ·have hl0 : letter x = false := by simpa using hlet
       rw [hl0] at cL
       have hna : L.all letter = false := by
        rw [Bool.eq_false_iff]
        intro h
        have h3 : x ∈ L.take (k + 1) := by rw [htk.out]; simp
        have h2 := List.all_eq_true.1 h x (List.mem_of_mem_take h3)
        rw [hl0] at h2; cases h2
       go_wp2_with (fail)
       refine (cL.out _).mono ?_
       rintro e w' ⟨rfl, rfl⟩
       go_wp2_with (fail)
       go_ret
       refine ⟨_, rfl, ?_, hB2.trans (hB.mono (by omega))⟩
       rw [hnr.out, if_neg (by rintro ⟨h1, -⟩; rw [hna] at h1; cases h1)]
       exact .inl ⟨rfl, rfl⟩
     ·obtain rfl : k = L.length := by omega
      rw [List.take_length] at *
      replace hnr := hid (show NL = numsOf (lowL L) by rw [hnr.out, if_pos ⟨hall, by omega, by omega⟩])
      have hm : ∀ W, (Instr.makeSlice 50 (.int .i64 ((L.length : Int) - 1)) (.int .i64 ((L.length : Int) - 1))).run Tryz.prog W = .ok (.slice (some ⟨W.heap.size, 0, none⟩) (L.length - 1) (L.length - 1)) (W.alloc (.cells (atVals (List.replicate (L.length - 1) 0)) 3)) := fun W => by
       rw [run_makeSlice W 50 3 i0 (.int .i64 0) Tryz.underlying50 hi hz0 .i64 .i64 ((L.length : Int) - 1) ((L.length : Int) - 1) (by omega) (by omega) (by rw [hz1]; omega) (by rw [hz2]; omega) (by omega), hz1]
       have e1 : ((L.length : Int) - 1).toNat = L.length - 1 := by omega
       rw [e1]
       unfold madeCells atVals
       congr 4
       refine Array.ext (by simp) (fun i h1 h2 => ?_)
       simp [Value.cells, Nat.mod_one]
      clear hLr hok hLc
      go_wp2_with (at_builtin; go_must (refine wpList_append_own _ rfl _ _ 66 rfl (b + 1) 5 i1 (.int .u8 0) 1 1 Tryz.underlying66 hi1 hy0 hy1 hy2 rfl (by decide) _ _ _ rfl (hrow.alloc _) ⟨_, 0, none⟩ 1 1 [.int .u8 46] rfl rfl (cells_new _ _ _) (by simp [Value.oneCell']) (by unfold maxLen; omega) (by omega) (by have := hB.size; simp; omega) ?_; intro v' w3 hown' hgrow _; obtain ⟨g', cap', rfl⟩ := ownsRow_succ hown'; have hB3 := (hB.alloc (by have := hB.size; omega) (.cells #[.int .u8 46] 5)).grown hgrow (by have := hB.size; simp; omega) (fun j e => own_base hrow e); have hb3 := cell_blk ((hB3.block b (by omega)).trans hb2) (i := 0) rfl))
      refine (hc3.out _).mono ?_
      rintro e w4 ⟨rfl, rfl⟩
      have hO := (Kept.alloc 0 (w3.alloc (.cells (atVals (List.replicate (L.length - 1) 0)) 3)) (.cells (patTexts.map fun x => Value.string ⟨x.toArray⟩).toArray 9)).same _ _ (World.alloc_heap_new w3 (.cells (atVals (List.replicate (L.length - 1) 0)) 3)) (.inl rfl)
      have hP := World.alloc_heap_new (w3.alloc (.cells (atVals (List.replicate (L.length - 1) 0)) 3)) (.cells (patTexts.map fun x => Value.string ⟨x.toArray⟩).toArray 9)
      have hzz : ((w3.alloc (.cells (atVals (List.replicate (L.length - 1) 0)) 3)).alloc (.cells (patTexts.map fun x => Value.string ⟨x.toArray⟩).toArray 9)).heap.size = w3.heap.size + 2 := by simp
      rw [World.size_alloc] at hP ⊢
      obtain ⟨DL, hDL⟩ : ∃ DL, dotted (lowL L) = DL := ⟨_, rfl⟩
      have hDl : DL.length = L.length + 2 := by rw [← hDL]; simp [dotted, lowL]
      have hrw : w3.ownsRow (b + 1) 5 1 (.slice (some ⟨g', 0, none⟩) (L.length + 2) cap') (L.length + 2) (bv DL) := by
       rw [show bv DL = bv (46 :: lowL L) ++ [.int .u8 46] by rw [← hDL]; simp [dotted, bv]]; exact hown'
      have hws : Sl w3 1 encB (.slice (some ⟨g', 0, none⟩) (L.length + 2) cap') (bz DL) := by
       have h1 := sl_of_owns (enc := encB) (l := bz DL) (e := 5) (base := b + 1) (k := 1) (v := .slice (some ⟨g', 0, none⟩) (L.length + 2) cap') (fun _ _ => rfl) (by
        rw [bz_enc, show (bz DL).length = L.length + 2 by simp [bz, hDl]]; exact hrw)
       exact h1
      have hgl : g' < w3.heap.size ∧ L.length + 2 ≤ cap' ∧ cap' ≤ maxLen := by
       rcases hrw.2 with ⟨h1, -⟩ | ⟨g, c, cur, h1, h2, h3, h4, h5, -⟩
       ·cases h1
       ·cases h1; exact ⟨(Array.getElem?_eq_some_iff.1 h3).1, h4, h5⟩
      have hws5 := ((Kept.alloc 0 w3 (.cells (atVals (List.replicate (L.length - 1) 0)) 3)).trans (Kept.alloc 0 _ (.cells (patTexts.map fun x => Value.string ⟨x.toArray⟩).toArray 9))).sl hws
      have hB5 := ((hB2.trans (hB3.mono (by omega))).alloc (by have := hB3.size; omega) (.cells (atVals (List.replicate (L.length - 1) 0)) 3)).alloc (by have := hB3.size; simp; omega) (.cells (patTexts.map fun x => Value.string ⟨x.toArray⟩).toArray 9)
      have hN : NL = win L.length (allPats DL pats) := by
       rw [hnr.out, ← hDL]; unfold numsOf win; rw [show (lowL L).length = L.length by simp [lowL]]
      have hO0 : List.replicate (L.length - 1) (0 : Int) = win L.length (allPats DL ([] : List Pat)) := by
       unfold win allPats
       rw [List.foldl_nil, hDl, List.drop_replicate, List.take_replicate]
       congr 1; omega
      have hOb : b + 1 ≤ w3.heap.size := by have := hB3.size; omega
      replace hN := hid hN
      clear hm hws hrw hown' hgrow hrow hB hB3 hB2 hbr hb0 hb1 hb3 hb2 hnr hc1 hall hDL hc3
      generalize (w3.alloc (.cells (atVals (List.replicate (L.length - 1) 0)) 3)).alloc (.cells (patTexts.map fun x => Value.string ⟨x.toArray⟩).toArray 9) = W5 at *
      rw [hO0] at hO
      clear hO0 hkl hw1 hne hk e2 e3
      generalize w3.heap.size = O at *
      generalize L.length = n at *
      go_wp2_with (fail)
      go_loopw [9] (fun i wr => ∃ p : Nat, p ≤ 18 ∧ i = .int .i64 p ∧ wr.heap[O]? = some (.cells (atVals (win n (allPats DL (pats.take p)))) 3 (0, 0)) ∧ W5.grownBy wr (some O)) (fun i _ => 18 - (RowKit.intOf i).toNat)
      case atStart => exact ⟨0, by omega, rfl, hO, World.grownBy.refl _ _⟩
      case round =>
       obtain ⟨p, hp, rfl, hOr, hg⟩ := hrel
       by_cases hp18 : p < 18
       ·have hp18' : (p : Int) < 18 := by omega
        have hPw := (hg.block (O + 1) (by omega) (by simp)).trans hP
        obtain ⟨T, hT⟩ : ∃ T, patTexts[p]'hp18 = T := ⟨_, rfl⟩
        obtain ⟨TB, hTB⟩ : ∃ TB : ByteArray, TB = ⟨T.toArray⟩ := ⟨_, rfl⟩
        have hTs : TB.size = T.length := by rw [hTB]; rfl
        have hTk : ∀ k (h : k < TB.size) (h' : k < T.length), TB[k]'h = T[k] := by subst hTB; intro k h h'; rfl
        have hPc : ∀ W : World, W.heap[O + 1]? = W5.heap[O + 1]? → W.cell? ⟨O + 1, p, none⟩ = some (.string TB) := by
         intro W hW
         refine cell_blk (hW.trans hP) ?_
         rw [hTB, ← hT]
         simp only [List.getElem?_toArray, List.getElem?_map]
         rw [List.getElem?_eq_getElem hp18]; rfl
        have hTm : T ∈ patTexts := by rw [← hT]; exact List.getElem_mem _
        have hpt : pats.take (p + 1) = pats.take p ++ [patOf T] := by
         rw [List.take_succ_eq_append_getElem (by exact hp18), ← hT]
         congr 2
         exact List.getElem_map _
        have hall := allPats_snoc DL (pats.take p) (patOf T)
        rw [← hpt] at hall
        have hTl : T.length ≤ 8 ∧ 1 ≤ (patOf T).letters.length ∧ (patOf T).letters.length ≤ 4 := by
         have h2 : (patTexts.all fun y => decide (y.length ≤ 8 ∧ 1 ≤ (patOf y).letters.length ∧ (patOf y).letters.length ≤ 4)) = true := by decide
         simpa using List.all_eq_true.1 h2 T hTm
        have hTd : dig (patOf T).nums := pats_dig _ (List.mem_map.2 ⟨T, hTm, rfl⟩)
        replace hpt := hid hpt
        replace hall := hid hall
        clear hT hTm hTB
        replace hTk := hid hTk
        replace hPc := hid hPc
        obtain ⟨wq, hwq⟩ : ∃ wq, wq = wr := ⟨_, rfl⟩
        subst hwq
        have hAl := allPats_len DL (pats.take p)
        rw [hDl] at hAl
        generalize allPats DL (pats.take p) = A at *
        go_wp2_with (fail)
        go_loopw [10, 11, 12] (fun sv dv i wx => ∃ k : Nat, k ≤ T.length ∧ i = .int .i64 k ∧ (∃ u, sv = u ∧ wx.ownsRow wq.heap.size 5 1 u (patOf (T.take k)).letters.length (bv (patOf (T.take k)).letters)) ∧ (∃ u, dv = u ∧ wx.ownsRow wq.heap.size 3 1 u (patOf (T.take k)).nums.length ((patOf (T.take k)).nums.flatMap encI)) ∧ Below wq.heap.size wq wx) (fun _ _ i _ => T.length - (RowKit.intOf i).toNat)
        case atStart =>
         refine ⟨0, Nat.zero_le _, rfl, ⟨_, rfl, World.ownsRow_nil _ _ _ _⟩, ⟨_, rfl, ?_⟩, (Below.refl _ _).alloc (Nat.le_refl _) _⟩
         exact ⟨rfl, .inr ⟨wq.heap.size, 1, #[.int .i64 0], rfl, Nat.le_refl _, World.alloc_heap_new wq _, Nat.le_refl _, by decide, rfl, rfl⟩⟩
        case round =>
         obtain ⟨k, hk, rfl, ⟨_, rfl, hS⟩, ⟨_, rfl, hD⟩, hB⟩ := hrel
         obtain ⟨ps, cs, rfl, hs1, hs2⟩ := owns_shape hS
         obtain ⟨pd, cd, rfl, hd1, hd2⟩ := owns_shape hD
         unfold maxLen at hs2 hd2
         have hws := hg.size
         have hwb := hB.size
         have hstr := hPc.out wr ((hB.block (O + 1) (by omega)).trans (hg.block (O + 1) (by omega) (by simp)))
         obtain ⟨hl1, hl2⟩ := patOf_len (T.take k)
         rw [List.length_take] at hl2
         by_cases hkl : k < T.length
         ·have hkT : k < TB.size := by omega
          have hget := hTk.out k hkT hkl
          have htk : T.take (k + 1) = T.take k ++ [T[k]] := by rw [List.take_succ_eq_append_getElem hkl]
          have hpk := congrArg patOf htk
          rw [patOf_snoc] at hpk
          replace hpk := hid hpk
          have hkTI : (k : Int) < TB.size := by omega
          clear htk
          generalize T[k] = c at *
          have hcn := c.toNat_lt
          generalize patOf (T.take k) = q at *
          obtain ⟨ql, qn⟩ := q
          simp only [] at *
          by_cases h48 : (48 : Int) ≤ c.toNat
          ·by_cases h57 : (c.toNat : Int) ≤ 57
           ·have hps : patStep ⟨ql, qn⟩ c = ⟨ql, qn.set ql.length (c.toNat - 48 : Int)⟩ := by unfold patStep; rw [if_pos (by omega)]
            rw [hps] at hpk
            obtain ⟨g, rfl, hg1, ⟨x0, hgc⟩, hgf, hset, ⟨cur, fr, hcur⟩, hgn⟩ := owns_set hD (i := ql.length) (by omega) (.int .i64 (c.toNat - 48))
            have hw := IntWalk.u8_in ((c.toNat : Int) - 48) (by omega)
            have hw2 : IntKind.i64.wrap ((c.toNat : Int) - 48) = c.toNat - 48 := IntWalk.i64_in _ (by omega)
            have hSo := hid (owns_off hS hcur (by decide) ql.length (.int .i64 (c.toNat - 48)))
            have hBs := hid (hB.setCell (p := ⟨g, ql.length, none⟩) hg1 (.int .i64 (c.toNat - 48)))
            replace hset := hid hset
            rw [hl1] at hd1 hD
            clear hgn hcur hS
            go_wp2_with (fail)
            refine ⟨⟨k + 1, by omega, by go_num, ⟨_, rfl, ?_⟩, ⟨_, rfl, ?_⟩, hBs.out⟩, by simp [RowKit.intOf]; omega⟩
            ·rw [hpk.out]; exact hSo.out
            ·rw [hpk.out]
             dsimp only
             rw [List.length_set, show (qn.set ql.length (c.toNat - 48 : Int)).flatMap encI = (qn.flatMap encI).set ql.length (.int .i64 (c.toNat - 48)) by rw [map_encI, map_encI, List.map_set]]
             exact hset.out
           ·
            have hps : patStep ⟨ql, qn⟩ c = ⟨ql ++ [c], qn ++ [0]⟩ := by unfold patStep; rw [if_neg (by omega)]
            rw [hps] at hpk
            rw [hl1] at hd1 hD
            go_upto_region 27 with (at_builtin; go_must (refine wpList_append_own _ rfl _ _ 66 rfl wq.heap.size 5 i1 (.int .u8 0) 1 1 Tryz.underlying66 hi1 hy0 hy1 hy2 rfl (by decide) _ _ _ rfl (hS.alloc _) ⟨_, 0, none⟩ 1 1 [.int .u8 c.toNat] rfl rfl (cells_new _ _ _) (by simp [Value.oneCell']) (by unfold maxLen; omega) (by omega) (by simp; omega) ?_; intro v' w7 hS7 hgr7 _; obtain ⟨g7, c7, rfl⟩ := ownsRow_succ hS7; have hD7 := owns_two (hS.alloc _) hgr7 (hD.alloc _) (by decide); have hz7 := hgr7.size))
            have hB7 := (hB.alloc hwb (.cells #[.int .u8 c.toNat] 5)).grown hgr7 (by simp; omega) (fun j e => own_base hS e)
            have hb7 := hB7.size
            go_wp2_with (at_builtin; go_must (refine wpList_append_own _ rfl _ _ 50 rfl wq.heap.size 3 i0 (.int .i64 0) 1 8 Tryz.underlying50 hi hz0 hz1 hz2 rfl (by decide) _ _ _ rfl (hD7.alloc _) ⟨_, 0, none⟩ 1 1 [.int .i64 0] rfl rfl (cells_new _ _ _) (by simp [Value.oneCell']) (by unfold maxLen; omega) (by omega) (by simp; omega) ?_; intro v' w8 hD8 hgr8 _; obtain ⟨g8, c8, rfl⟩ := ownsRow_succ hD8; have hS8 := owns_two (hD7.alloc _) hgr8 (hS7.alloc _) (by decide)))
            have hB8 := (hB7.alloc hb7 (.cells #[.int .i64 0] 3)).grown hgr8 (by simp; omega) (fun j e => own_base hD7 e)
            refine ⟨⟨k + 1, by omega, by go_num, ⟨_, rfl, ?_⟩, ⟨_, rfl, ?_⟩, hB8⟩, by simp [RowKit.intOf]; omega⟩
            ·rw [hpk.out]
             dsimp only
             rw [List.length_append, show bv (ql ++ [c]) = bv ql ++ [.int .u8 c.toNat] by simp [bv]]
             exact hS8
            ·rw [hpk.out]
             dsimp only
             rw [List.length_append, hl1, flat_snoc]
             exact hD8
          ·
           have hps : patStep ⟨ql, qn⟩ c = ⟨ql ++ [c], qn ++ [0]⟩ := by unfold patStep; rw [if_neg (by omega)]
           rw [hps] at hpk
           rw [hl1] at hd1 hD
           go_upto_region 27 with (at_builtin; go_must (refine wpList_append_own _ rfl _ _ 66 rfl wq.heap.size 5 i1 (.int .u8 0) 1 1 Tryz.underlying66 hi1 hy0 hy1 hy2 rfl (by decide) _ _ _ rfl (hS.alloc _) ⟨_, 0, none⟩ 1 1 [.int .u8 c.toNat] rfl rfl (cells_new _ _ _) (by simp [Value.oneCell']) (by unfold maxLen; omega) (by omega) (by simp; omega) ?_; intro v' w7 hS7 hgr7 _; obtain ⟨g7, c7, rfl⟩ := ownsRow_succ hS7; have hD7 := owns_two (hS.alloc _) hgr7 (hD.alloc _) (by decide); have hz7 := hgr7.size))
           have hB7 := (hB.alloc hwb (.cells #[.int .u8 c.toNat] 5)).grown hgr7 (by simp; omega) (fun j e => own_base hS e)
           have hb7 := hB7.size
           go_wp2_with (at_builtin; go_must (refine wpList_append_own _ rfl _ _ 50 rfl wq.heap.size 3 i0 (.int .i64 0) 1 8 Tryz.underlying50 hi hz0 hz1 hz2 rfl (by decide) _ _ _ rfl (hD7.alloc _) ⟨_, 0, none⟩ 1 1 [.int .i64 0] rfl rfl (cells_new _ _ _) (by simp [Value.oneCell']) (by unfold maxLen; omega) (by omega) (by simp; omega) ?_; intro v' w8 hD8 hgr8 _; obtain ⟨g8, c8, rfl⟩ := ownsRow_succ hD8; have hS8 := owns_two (hD7.alloc _) hgr8 (hS7.alloc _) (by decide)))
           have hB8 := (hB7.alloc hb7 (.cells #[.int .i64 0] 3)).grown hgr8 (by simp; omega) (fun j e => own_base hD7 e)
           refine ⟨⟨k + 1, by omega, by go_num, ⟨_, rfl, ?_⟩, ⟨_, rfl, ?_⟩, hB8⟩, by simp [RowKit.intOf]; omega⟩
           ·rw [hpk.out]
            dsimp only
            rw [List.length_append, show bv (ql ++ [c]) = bv ql ++ [.int .u8 c.toNat] by simp [bv]]
            exact hS8
           ·rw [hpk.out]
            dsimp only
            rw [List.length_append, hl1, flat_snoc]
            exact hD8
         ·obtain rfl : k = T.length := by omega
          rw [List.take_length] at *
          have hSl : Sl wr 1 encB (.slice ps (patOf T).letters.length cs) (bz (patOf T).letters) := by
           have := sl_of_owns (enc := encB) (l := bz (patOf T).letters) (e := 5) (base := wq.heap.size) (k := 1) (v := .slice ps (patOf T).letters.length cs) (fun _ _ => rfl) (by
            rw [bz_enc, show (bz (patOf T).letters).length = (patOf T).letters.length by simp [bz]]; exact hS)
           exact this
          have hDl2 : Sl wr 1 encI (.slice pd (patOf T).nums.length cd) (patOf T).nums := sl_of_owns (e := 3) (base := wq.heap.size) (fun _ _ => rfl) hD
          have hgB : W5.grownBy wr (some O) := ⟨hB.os.trans hg.os, hB.tape.trans hg.tape, hB.output.trans hg.output, by omega, fun i hi hn => (hB.block i (by omega)).trans (hg.block i hi hn)⟩
          have hOb2 := (hB.block O (by omega)).trans hOr
          have hpsO : ∀ a, ps = some a → a.block ≠ O := by
           rintro a rfl
           have := own_addr hS
           omega
          have hpdO : ∀ a, pd = some a → a.block ≠ O := by
           rintro a rfl
           have := own_addr hD
           omega
          clear hS hD hl2
          go_wp2_with (fail)
          clear hB hwb hstr hkl hk hPw hOr hTs
          obtain ⟨wt, hwt⟩ : ∃ wt, wt = wr := ⟨_, rfl⟩
          subst hwt
          generalize patOf T = P at *
          obtain ⟨pl, pn⟩ := P
          simp only [] at *
          go_loopw [14] (fun i wx => ∃ f : Nat, f + pl.length ≤ n + 3 ∧ i = .int .i64 f ∧ wx.heap[O]? = some (.cells (atVals (win n (onePat DL ⟨pl, pn⟩ A f))) 3 (0, 0)) ∧ wt.grownBy wx (some O)) (fun i _ => n + 4 - (RowKit.intOf i).toNat)
          case atStart => exact ⟨0, by omega, rfl, hOb2, World.grownBy.refl _ _⟩
          case round =>
           obtain ⟨f, hf, rfl, hOx, hgx⟩ := hrel
           by_cases hfl : (f : Int) + pl.length ≤ n + 2
           ·have hg'O : ∀ a, some (⟨g', 0, none⟩ : Addr) = some a → a.block ≠ O := by intro a h; cases h; simp only []; omega
            have hwx := Sl.win ((hws5.grown hgB hg'O).grown hgx hg'O) (by simp [bz, hDl]) (f := f) (m := pl.length) (c' := cap' - f) (by omega) (by omega) (by omega)
            rw [Nat.mul_one, Nat.zero_add] at hwx
            have hcA := conv_sl ((Kept.drew 0 wr).sl hwx)
            have hcB := conv_sl ((Kept.drew 0 wr).sl (hSl.grown hgx hpsO))
            have hAB : ((strOfNums (((bz DL).drop f).take pl.length)).toList == (strOfNums (bz pl)).toList) = hits DL ⟨pl, pn⟩ f := by
             rw [hits_take, bz_str, show ((bz DL).drop f).take pl.length = bz ((DL.drop f).take pl.length) by simp [bz, List.map_drop, List.map_take], bz_str]
            have hdx := hDl2.grown hgx hpdO
            generalize strOfNums (((bz DL).drop f).take pl.length) = SA at *
            generalize strOfNums (bz pl) = SB at *
            obtain ⟨hv, hhv⟩ : ∃ hv, hits DL ⟨pl, pn⟩ f = hv := ⟨_, rfl⟩
            rw [hhv] at hAB
            have hfn : (f : Int) ≤ n + 2 := by omega
            clear hwx
            go_upto_region 31 with (fail)
            go_region
            have hOy : wr.drew.heap[O]? = some (.cells (atVals (win n (onePat DL ⟨pl, pn⟩ A f))) 3 (0, 0)) := hOx
            have hgy : wt.grownBy wr.drew (some O) := ⟨hgx.os, hgx.tape, hgx.output, hgx.size, hgx.block⟩
            clear hcA hcB hAB hOx hgx hdx
            generalize wr.drew = wy at *
            cases hv
            ·have hst := hid (show onePat DL ⟨pl, pn⟩ A (f + 1) = onePat DL ⟨pl, pn⟩ A f by rw [onePat, stepF, if_neg (by rw [hhv]; decide)])
             go_wp2
             exact ⟨⟨f + 1, by omega, by go_num, by rw [hst.out]; exact hOy, hgy⟩, by simp [RowKit.intOf]; omega⟩
            ·have hst := hid (show onePat DL ⟨pl, pn⟩ A (f + 1) = addN (onePat DL ⟨pl, pn⟩ A f) f pn pn.length by rw [onePat, stepF, if_pos hhv])
             have hBl : (onePat DL ⟨pl, pn⟩ A f).length = A.length := onePat_len _ _ _ _
             generalize onePat DL ⟨pl, pn⟩ A f = B at *
             go_wp2
             go_loopw [15] (fun j wz => ∃ k : Nat, k ≤ pn.length ∧ j = .int .i64 k ∧ wz.heap[O]? = some (.cells (atVals (win n (addN B f pn k))) 3 (0, 0)) ∧ wt.grownBy wz (some O)) (fun j _ => pn.length - (RowKit.intOf j).toNat)
             case atStart => exact ⟨0, Nat.zero_le _, rfl, hOy, hgy⟩
             case round =>
              clear hOy hgy
              obtain ⟨k, hk, rfl, hOz, hgz⟩ := hrel
              by_cases hkl : k < pn.length
              ·have hkI : (k : Int) < pn.length := by omega
               have hdz := hDl2.grown hgz hpdO
               obtain ⟨db, dof, cap, e1, e2, e3, e4⟩ := hdz.open (by rintro rfl; simp at hkl)
               simp only [Value.slice.injEq] at e1
               obtain ⟨rfl, -, rfl⟩ := e1
               have hdk := rangeAt_one (e4 k pn[k] (List.getElem?_eq_getElem hkl))
               rw [Nat.mul_one] at hdk
               have hgd : pn.getD k 0 = pn[k] := by rw [List.getD_eq_getElem?_getD, List.getElem?_eq_getElem hkl]; rfl
               have hwa := win_add n B f pn k
               rw [hgd] at hwa
               generalize pn[k] = v at *
               have hwl : (win n (addN B f pn k)).length = n - 1 := by unfold win; rw [List.length_take, List.length_drop, addN_len, hBl]; omega
               have hwx : IntKind.i64.wrap ((f : Int) + k - 2) = f + k - 2 := IntWalk.i64_in _ (by omega)
               generalize win n (addN B f pn k) = R at *
               by_cases h0 : (0 : Int) ≤ f + k - 2
               ·by_cases h1 : (f : Int) + k - 2 < (n - 1 : Nat)
                ·rw [if_pos ⟨by omega, by omega⟩] at hwa
                 obtain ⟨ix, hix⟩ : ∃ ix : Nat, f + k - 2 = ix := ⟨_, rfl⟩
                 have hixI : (f : Int) + k - 2 = ix := by omega
                 rw [hix] at hwa
                 replace hwa := hid hwa
                 have hixR : ix < R.length := by omega
                 have hixn : (ix : Int) < (n - 1 : Nat) := by omega
                 have hck : wr.cell? ⟨O, ix, none⟩ = some (.int .i64 (R.getD ix 0)) := cell_blk hOz (by simp [atVals, List.getElem?_eq_getElem hixR, List.getD_eq_getElem?_getD])
                 have hcf := frozen_blk (i := ix) hOz
                 have hset := fun x => setCell_blk (i := ix) (x := .int .i64 x) hOz
                 replace hset := hid hset
                 generalize R.getD ix 0 = u at *
                 obtain ⟨x, hmx⟩ : ∃ x, max u v = x := ⟨_, rfl⟩
                 rw [hmx] at hwa
                 have hif : (if u < v then v else u) = x := by rw [← hmx]; split <;> omega
                 clear hmx
                 have fin : (wr.setCell ⟨O, ix, none⟩ (.int .i64 x)).drew.heap[O]? = some (.cells (atVals (win n (addN B f pn (k + 1)))) 3 (0, 0)) ∧ wt.grownBy (wr.setCell ⟨O, ix, none⟩ (.int .i64 x)).drew (some O) := by
                  have ho : ∀ j, j ≠ O → (wr.setCell ⟨O, ix, none⟩ (.int .i64 x)).drew.heap[j]? = wr.heap[j]? := fun j hj => setCell_off (w := wr) hj
                  have hs : (wr.setCell ⟨O, ix, none⟩ (.int .i64 x)).drew.heap.size = wr.heap.size := by simp [World.setCell]
                  refine ⟨?_, ⟨hgz.os, hgz.tape, hgz.output, by rw [hs]; exact hgz.size, fun i hi hn => (ho i (by simpa using hn)).trans (hgz.block i hi hn)⟩⟩
                  rw [hwa.out]
                  refine Eq.trans (hset.out x) ?_
                  congr 2
                  unfold atVals
                  simp [List.map_set]
                 replace fin := hid fin
                 go_upto_region 37 with (fail)
                 go_region
                 generalize (wr.setCell ⟨O, ix, none⟩ (.int .i64 x)).drew = wz at *
                 go_wp2
                 exact ⟨⟨k + 1, by omega, by go_num, fin.out.1, fin.out.2⟩, by simp [RowKit.intOf]; omega⟩
                ·rw [if_neg (by omega)] at hwa
                 replace hwa := hid hwa
                 go_wp2_with (fail)
                 exact ⟨⟨k + 1, by omega, by omega, by rw [hwa.out]⟩, by simp [RowKit.intOf]; omega⟩
               ·rw [if_neg (by omega)] at hwa
                replace hwa := hid hwa
                go_wp2_with (fail)
                exact ⟨⟨k + 1, by omega, by omega, by rw [hwa.out]⟩, by simp [RowKit.intOf]; omega⟩
              ·obtain rfl : k = pn.length := by omega
               go_wp2_with (fail)
               exact ⟨⟨f + 1, by omega, by go_num, by rw [hst.out]; exact hOz, hgz⟩, by simp [RowKit.intOf]; omega⟩
           ·have hpast := onePat_past DL ⟨pl, pn⟩ A f (by exact hTl.2.1) (by rw [hDl]; simp only []; omega) (DL.length - f)
            rw [show f + (DL.length - f) = DL.length by rw [hDl]; omega, ← hall.out] at hpast
            rw [← hpast] at hOx
            go_wp2_with (fail)
            refine ⟨⟨p + 1, by omega, by go_num, hOx, ⟨hgx.os.trans hgB.os, hgx.tape.trans hgB.tape, hgx.output.trans hgB.output, Nat.le_trans hgB.size hgx.size, fun i hi hn => (hgx.block i (Nat.lt_of_lt_of_le hi hgB.size) hn).trans (hgB.block i hi hn)⟩⟩, by simp [RowKit.intOf]; omega⟩
       ·obtain rfl : p = 18 := by omega
        have hwl : (win n (allPats DL pats)).length = n - 1 := by unfold win; rw [List.length_take, List.length_drop, allPats_len]; omega
        rw [show pats.take 18 = pats from rfl] at hOr
        have hlast := sl_row hOr (by rw [hwl]; unfold maxLen; omega)
        rw [hwl] at hlast
        go_wp2_with (fail)
        go_ret
        refine ⟨_, rfl, by rw [hN.out]; exact hlast, hB5.grown hg hB5.size (fun j e => by cases e; omega)⟩
end Go.Proofs.YtempicociampoaaGreatDoor
