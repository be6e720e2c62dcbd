/- The walks of the reference's cut and Words. The walks of the reference's in and Sign, of sum and the Texts, and of layer 10's wakes. The walk of the reference's plain. -/
import Derived.Test.YtempicociampoaaGreatDoorJ17
import Derived.Test.YtempicociampoaaGreatDoorJ5
namespace Go.Proofs.YtempicociampoaaGreatDoor
open Go.RowKit Go.Shelf Go.Lib

/-- what a loop that cuts has laid out so far: pieces L, the next one from f on, k the sign that is looked at -/
def CutInv (c : UInt8) (l : L8) (f k : Nat) (L : List L8) : Prop :=
  (k ≤ l.length ∧ f ≤ k ∧ L ++ cutB c (l.drop f) = cutB c l ∧ c ∉ (l.take k).drop f) ∨ (k = l.length + 1 ∧ L = cutB c l)
theorem CutInv.start (c : UInt8) (l : L8) : CutInv c l 0 0 [] := .inl ⟨Nat.zero_le _, Nat.le_refl _, rfl, by simp⟩
theorem CutInv.from_le {c : UInt8} {l : L8} {f k : Nat} {L : List L8} (h : CutInv c l f k L) (hk : k ≤ l.length) : f ≤ k := by
  rcases h with h | h
  · exact h.2.1
  · omega
theorem CutInv.done {c : UInt8} {l : L8} {f k : Nat} {L : List L8} (h : CutInv c l f k L) (hk : l.length < k) : L = cutB c l := by
  rcases h with h | h
  · omega
  · exact h.2
theorem CutInv.last {c : UInt8} {l : L8} {f : Nat} {L : List L8} (h : CutInv c l f l.length L) (g : Nat) : CutInv c l g (l.length + 1) (L ++ [(l.take l.length).drop f]) := by
  rcases h with ⟨-, h1, h2, h3⟩ | h
  · refine .inr ⟨rfl, ?_⟩
    rw [List.take_length] at h3 ⊢
    rw [← h2, cutB_none h3]
  · omega
theorem CutInv.hit {c : UInt8} {l : L8} {f k : Nat} {L : List L8} (h : CutInv c l f k L) (hk : k < l.length) (hc : l[k] = c) : CutInv c l (k + 1) (k + 1) (L ++ [(l.take k).drop f]) := by
  rcases h with ⟨-, h1, h2, h3⟩ | h
  · refine .inl ⟨hk, Nat.le_refl _, ?_, by rw [List.drop_take, Nat.sub_self]; simp⟩
    have e : l.drop f = (l.take k).drop f ++ c :: l.drop (k + 1) := by
      conv => lhs; rw [← List.take_append_drop k l, List.drop_append_of_le_length (by rw [List.length_take]; omega)]
      rw [List.drop_eq_getElem_cons hk, hc]
    rw [← h2, e, cutB_hit _ h3, List.append_assoc]; rfl
  · omega
theorem CutInv.miss {c : UInt8} {l : L8} {f k : Nat} {L : List L8} (h : CutInv c l f k L) (hk : k < l.length) (hc : l[k] ≠ c) : CutInv c l f (k + 1) L := by
  rcases h with ⟨-, h1, h2, h3⟩ | h
  · refine .inl ⟨hk, by omega, h2, ?_⟩
    rw [List.take_succ_eq_append_getElem hk, List.drop_append_of_le_length (by rw [List.length_take]; omega), List.mem_append]
    rintro (h | h)
    · exact h3 h
    · exact hc (List.mem_singleton.1 h).symm
  · omega
/-- pieces that are known by their signs -/
theorem pieces_of {c : UInt8} {s : ByteArray} {L : List ByteArray} (h : L.map (fun x => x.data.toList) = cutB c s.data.toList) : L = pcsB c s := by
  unfold pcsB
  rw [← h, List.map_map]
  conv => lhs; rw [← List.map_id L]
  exact List.map_congr_left fun x _ => (ba_toB x).symm

set_option maxRecDepth 100000 in
set_option maxHeartbeats 4000000 in
theorem rcut_any (s : ByteArray) (c : UInt8) (w : World) (hs : s.size ≤ 2000000) :
    Calls Tryz.prog 62 #[.string s, .int .u8 c.toNat] w fun e w' => ∃ v, e = .returned v ∧ w'.ownsRow w.heap.size 9 1 v (pcsB c s).length ((pcsB c s).flatMap encT) ∧ Below w.heap.size w w' := by
  go_enter Tryz.func62, Tryz.ntmps62
  go_wp2_with (fail)
  go_loopw [5, 6, 7] (fun ov fv i wr => ∃ (k f : Nat) (L : List ByteArray), k ≤ s.size + 1 ∧ f ≤ s.size + 1 ∧ L.length ≤ k ∧ i = .int .i64 k ∧ fv = .int .i64 f ∧ CutInv c s.data.toList f k (L.map fun x => x.data.toList) ∧ (∃ x, ov = x ∧ wr.ownsRow w.heap.size 9 1 x L.length (L.flatMap encT)) ∧ Below w.heap.size w wr) (fun _ _ i _ => s.size + 1 - (RowKit.intOf i).toNat)
  case atStart => exact ⟨0, 0, [], Nat.zero_le _, Nat.zero_le _, Nat.le_refl _, rfl, rfl, CutInv.start _ _, ⟨_, rfl, World.ownsRow_nil _ _ _ _⟩, Below.refl _ _⟩
  case round =>
    obtain ⟨k, f, L, hk, hf, hL, rfl, rfl, hI, ⟨x0, rfl, o0⟩, hB⟩ := hrel
    obtain ⟨px, qx, rfl, -, -⟩ := owns_shape o0
    by_cases hkl : k ≤ s.size
    · have hkI : (k : Int) ≤ (s.size : Int) := by omega
      have hfk : f ≤ k := hI.from_le (by rw [size8]; exact hkl)
      have hfI : (f : Int) ≤ (k : Int) := by omega
      replace hI := hid hI
      have o0a := o0.alloc (.cells #[.string (s.extract f k)] 9)
      have sla : Sl (wr.alloc (.cells #[.string (s.extract f k)] 9)) 1 encT (.slice (some ⟨wr.heap.size, 0, none⟩) 1 1) [s.extract f k] := sl_of_block (l := [s.extract f k]) (World.alloc_heap_new wr _) rfl (fun _ _ => rfl) (Nat.le_refl 1) (by decide)
      have hBa := hB.alloc hB.size (.cells #[.string (s.extract f k)] 9)
      obtain ⟨i0, hi, hz0, hz1, hz2⟩ := info_parts Tryz.infoS
      by_cases hke : k = s.size
      · have hkb : ((k : Int) == (s.size : Int)) = true := by simp [hke]
        have hI2 : Hid (CutInv c s.data.toList (k + 1) (k + 1) ((L ++ [s.extract f k]).map fun x => x.data.toList)) := by
          have h8 : s.data.toList.length = k := by rw [size8, hke]
          have h := CutInv.last (l := s.data.toList) (by rw [h8]; exact hI.out) (k + 1)
          rw [h8] at h
          refine hid ?_
          rw [List.map_append, List.map_cons, List.map_nil, ex8]
          exact h
        replace hke := hid hke
        go_wp2_with (at_builtin; go_must (first
          | (refine wpList_append_sl rfl _ _ 22 rfl w.heap.size 9 i0 (.string ⟨#[]⟩) 1 16 Tryz.underlying22 hi hz0 hz1 hz2 rfl (by decide) _ _ _ rfl o0a encT _ [s.extract f k] rfl sla (fun x _ => ⟨rfl, fun u hu => by obtain rfl := List.mem_singleton.1 hu; rfl⟩) (by unfold maxLen; simp only [List.length_cons, List.length_nil]; omega) (by simp only [List.length_cons, List.length_nil]; omega) hBa.size ?_
             intro v2 W2 own2 grow2 _)))
        have hB2 := hBa.grown grow2 hBa.size (fun _ e => own_base o0a e)
        rw [← List.length_append, ← List.flatMap_append] at own2
        refine ⟨⟨k + 1, k + 1, L ++ [s.extract f k], by omega, by omega, by rw [List.length_append]; simp only [List.length_cons, List.length_nil]; omega, by go_num, by go_num, hI2.out, ⟨_, rfl, own2⟩, hB2⟩, by simp [RowKit.intOf]; omega⟩
      · have hkb : ((k : Int) == (s.size : Int)) = false := by simp only [beq_eq_false_iff_ne, ne_eq]; omega
        have hkl2 : k < s.size := by omega
        have hkI2 : (k : Int) < (s.size : Int) := by omega
        have h8 : k < s.data.toList.length := by rw [size8]; exact hkl2
        have hg : s.data.toList[k] = s[k] := rfl
        by_cases hc : s[k] = c
        · have hcb : ((s[k].toNat : Int) == (c.toNat : Int)) = true := by rw [hc]; exact beq_self_eq_true _
          have hI2 : Hid (CutInv c s.data.toList (k + 1) (k + 1) ((L ++ [s.extract f k]).map fun x => x.data.toList)) := by
            have h := hI.out.hit h8 (by rw [hg, hc])
            refine hid ?_
            rw [List.map_append, List.map_cons, List.map_nil, ex8]
            exact h
          replace hc := hid hc
          clear hg
          go_wp2_with (at_builtin; go_must (first
            | (refine wpList_append_sl rfl _ _ 22 rfl w.heap.size 9 i0 (.string ⟨#[]⟩) 1 16 Tryz.underlying22 hi hz0 hz1 hz2 rfl (by decide) _ _ _ rfl o0a encT _ [s.extract f k] rfl sla (fun x _ => ⟨rfl, fun u hu => by obtain rfl := List.mem_singleton.1 hu; rfl⟩) (by unfold maxLen; simp only [List.length_cons, List.length_nil]; omega) (by simp only [List.length_cons, List.length_nil]; omega) hBa.size ?_
               intro v2 W2 own2 grow2 _)))
          have hB2 := hBa.grown grow2 hBa.size (fun _ e => own_base o0a e)
          rw [← List.length_append, ← List.flatMap_append] at own2
          refine ⟨⟨k + 1, k + 1, L ++ [s.extract f k], by omega, by omega, by rw [List.length_append]; simp only [List.length_cons, List.length_nil]; omega, by go_num, by go_num, hI2.out, ⟨_, rfl, own2⟩, hB2⟩, by simp [RowKit.intOf]; omega⟩
        · have hcb : ((s[k].toNat : Int) == (c.toNat : Int)) = false := by
            simp only [beq_eq_false_iff_ne, ne_eq]
            intro h
            exact hc (UInt8.toNat_inj.1 (by omega))
          have hI2 : Hid (CutInv c s.data.toList f (k + 1) (L.map fun x => x.data.toList)) := hid (hI.out.miss h8 (by rw [hg]; exact hc))
          replace hc := hid hc
          clear hg
          go_wp2_with (fail)
          refine ⟨⟨k + 1, f, L, by omega, by omega, by omega, by go_num, rfl, hI2.out, ⟨_, rfl, o0⟩, hB⟩, by simp [RowKit.intOf]; omega⟩
    · have hLp := pieces_of (hI.done (by rw [size8]; omega))
      subst hLp
      clear hI
      go_wp2_with (fail)
      go_ret
      exact ⟨_, rfl, o0, hB⟩

set_option maxRecDepth 100000 in
set_option maxHeartbeats 4000000 in
/-- the reference's words of a line -/
theorem rWords_any (s : ByteArray) (w : World) (hs : s.size ≤ 2000000) :
    Calls Tryz.prog 38 #[.string s] w fun e w' => ∃ v, e = .returned v ∧ w'.ownsRow w.heap.size 9 1 v (wdsB s).length ((wdsB s).flatMap encT) ∧ Below w.heap.size w w' := by
  have cC := hid (rcut_any s 32 w hs)
  have hlen : (pcsB 32 s).length ≤ s.size + 1 := by
    unfold pcsB; rw [List.length_map, ← size8]; exact cutB_len 32 _
  have hw : wdsB s = (pcsB 32 s).filter fun w => !(w.size == 0) := rfl
  rw [hw]
  clear hw
  generalize pcsB 32 s = P at *
  go_enter Tryz.func38, Tryz.ntmps38
  go_wp2_with (fail)
  refine cC.out.mono ?_
  rintro e w1 ⟨v1, rfl, o1, b1⟩
  obtain ⟨p1, q1, rfl, -, -⟩ := owns_shape o1
  have z1 : Sl w1 1 encT (.slice p1 P.length q1) P := sl_of_owns (fun _ _ => rfl) o1
  clear o1 cC
  go_wp2_with (fail)
  go_loopw [3, 5] (fun ov i wr => ∃ (k : Nat), k ≤ P.length ∧ i = .int .i64 k ∧ (∃ x, ov = x ∧ wr.ownsRow w1.heap.size 9 1 x ((P.take k).filter fun w => !(w.size == 0)).length (((P.take k).filter fun w => !(w.size == 0)).flatMap encT)) ∧ Below w1.heap.size w1 wr) (fun _ i _ => P.length - (RowKit.intOf i).toNat)
  case atStart => exact ⟨0, Nat.zero_le _, rfl, ⟨_, rfl, World.ownsRow_nil _ _ _ _⟩, Below.refl _ _⟩
  case round =>
    obtain ⟨k, hk, rfl, ⟨x0, rfl, o0⟩, hB⟩ := hrel
    by_cases hkl : k < P.length
    · have hkI : (k : Int) < (P.length : Int) := by omega
      obtain ⟨px, qx, rfl, -, -⟩ := owns_shape o0
      obtain ⟨xb, xo, cap2, he, h4, h5, hc2⟩ := z1.open (by rintro rfl; simp at hkl)
      simp only [Value.slice.injEq] at he
      obtain ⟨rfl, -, rfl⟩ := he
      have hck := rangeAt_one ((Kept.of_below hB 0).range (hc2 k P[k] (List.getElem?_eq_getElem hkl)))
      rw [Nat.mul_one] at hck
      have htk : P.take (k + 1) = P.take k ++ [P[k]] := List.take_succ_eq_append_getElem hkl
      have hfl : ((P.take k).filter fun w => !(w.size == 0)).length ≤ k := Nat.le_trans (List.length_filter_le _ _) (by rw [List.length_take]; omega)
      clear hc2
      generalize P[k] = T at *
      by_cases hz : T.size = 0
      · obtain rfl : T = ⟨#[]⟩ := ba_ext8 (List.eq_nil_of_length_eq_zero (by rw [size8]; exact hz))
        have htf : ((P.take (k + 1)).filter fun w => !(w.size == 0)) = ((P.take k).filter fun w => !(w.size == 0)) := by
          rw [htk, List.filter_append, show ([(⟨#[]⟩ : ByteArray)].filter fun w => !(w.size == 0)) = [] from rfl, List.append_nil]
        replace htk := hid htk
        replace htf := hid htf
        replace hz := hid hz
        go_wp2_with (fail)
        refine ⟨⟨k + 1, by omega, by go_num, ⟨_, rfl, by rw [htf.out]; exact o0⟩, hB⟩, by simp [RowKit.intOf]; omega⟩
      · have htf : ((P.take (k + 1)).filter fun w => !(w.size == 0)) = ((P.take k).filter fun w => !(w.size == 0)) ++ [T] := by
          rw [htk, List.filter_append]; simp [hz]
        have hT : T.toList.isEmpty = false := by rw [empty8]; exact decide_eq_false fun h => hz (by rw [← size8, h]; rfl)
        replace htk := hid htk
        replace htf := hid htf
        replace hz := hid hz
        have o0a := o0.alloc (.cells #[.string T] 9)
        have sla : Sl (wr.alloc (.cells #[.string T] 9)) 1 encT (.slice (some ⟨wr.heap.size, 0, none⟩) 1 1) [T] := sl_of_block (l := [T]) (World.alloc_heap_new wr _) rfl (fun _ _ => rfl) (Nat.le_refl 1) (by decide)
        have hBa := hB.alloc hB.size (.cells #[.string T] 9)
        obtain ⟨i0, hi, hz0, hz1, hz2⟩ := info_parts Tryz.infoS
        generalize hF : ((P.take k).filter fun w => !(w.size == 0)) = F at *
        replace hF := hid hF
        go_wp2_with (at_builtin; go_must (first
          | (refine wpList_append_sl rfl _ _ 22 rfl w1.heap.size 9 i0 (.string ⟨#[]⟩) 1 16 Tryz.underlying22 hi hz0 hz1 hz2 rfl (by decide) _ _ _ rfl o0a encT _ [T] rfl sla (fun x _ => ⟨rfl, fun u hu => by obtain rfl := List.mem_singleton.1 hu; rfl⟩) (by unfold maxLen; simp only [List.length_cons, List.length_nil]; omega) (by simp only [List.length_cons, List.length_nil]; omega) hBa.size ?_
             intro v2 W2 own2 grow2 _)))
        have hB2 := hBa.grown grow2 hBa.size (fun _ e => own_base o0a e)
        rw [← List.length_append, ← List.flatMap_append] at own2
        refine ⟨⟨k + 1, by omega, by go_num, ⟨_, rfl, by rw [htf.out]; exact own2⟩, hB2⟩, by simp [RowKit.intOf]; omega⟩
    · obtain rfl : k = P.length := by omega
      rw [List.take_length] at o0
      go_wp2_with (fail)
      go_ret
      exact ⟨_, rfl, owns_downQ b1.size o0, b1.trans (hB.mono b1.size)⟩
end Go.Proofs.YtempicociampoaaGreatDoor
namespace Go.Proofs.YtempicociampoaaGreatDoor
open Go.RowKit Go.Shelf

set_option maxRecDepth 100000 in
set_option maxHeartbeats 2000000 in
theorem In_any (v : Int) (s : ByteArray) (w : World) (hs : s.size ≤ 1000) :
  Calls Tryz.prog 92 #[.int .i64 v, .string s] w fun e w' => e = .returned (.bool (memb s.data.toList v)) ∧ w' = w := by
 have hsz : s.data.toList.length = s.size := by rw [Array.length_toList]; rfl
 go_enter Tryz.func92, Tryz.ntmps92
 go_wp2
 go_loopw [4, 5] (fun a i wr => ∃ k : Nat, k ≤ s.size ∧ a = .bool false ∧ i = .int .i64 k ∧ memb (s.data.toList.take k) v = false ∧ wr = w) (fun _ i _ => s.size - (RowKit.intOf i).toNat)
 case atStart => exact ⟨0, Nat.zero_le _, rfl, rfl, rfl, rfl⟩
 case round =>
  obtain ⟨k, hk, rfl, rfl, hm, rfl⟩ := hrel
  have Hm := hid hm
  clear hm
  by_cases hlt : k < s.size
  ·have hget : s.data.toList[k]? = some (s[k]'hlt) := by
    rw [List.getElem?_eq_getElem (by rw [hsz]; exact hlt)]; rfl
   obtain ⟨c, hc⟩ : ∃ c, s[k]'hlt = c := ⟨_, rfl⟩
   rw [hc] at hget
   have htk : s.data.toList.take (k + 1) = s.data.toList.take k ++ [c] := by
    rw [List.take_add_one, hget]; rfl
   have Htk := hid htk
   have Hget := hid hget
   have hb1 := c.toNat_lt
   clear htk hget
   by_cases hv : (c.toNat : Int) = v
   ·have hall : memb s.data.toList v = true := by
     unfold memb
     rw [List.any_eq_true]
     exact ⟨c, List.mem_of_getElem? (Hid.out Hget), by simp [hv]⟩
    have Hall := hid hall
    clear hall
    subst hv
    go_wp2
    go_ret
    exact ⟨by rw [Hid.out Hall]; rfl, rfl⟩
   ·go_wp2
    refine ⟨⟨k + 1, by omega, rfl, rfl, ?_, trivial⟩, ?_⟩
    ·rw [Hid.out Htk]
     have := Hid.out Hm
     unfold memb at this ⊢
     rw [List.any_append, this]
     simp [hv]
    ·simp only [RowKit.intOf]; omega
  ·have hall : memb s.data.toList v = false := by
    have := Hid.out Hm
    rw [List.take_of_length_le (by rw [hsz]; omega)] at this
    exact this
   have Hall := hid hall
   clear hall
   go_wp2
   go_ret
   exact ⟨by rw [Hid.out Hall]; rfl, rfl⟩

set_option maxRecDepth 100000 in
set_option maxHeartbeats 2000000 in
theorem RSign_any (v : Int) (w : World) (z1 : -9223372036854775808 ≤ v) (z2 : v ≤ 9223372036854775807) :
  Calls Tryz.prog 65 #[.int .i64 v] w fun e w' => e = .returned (.int .i64 (width v)) ∧ w' = w := by
 have cN := In_any v ⟨#[105, 106, 108, 46, 44, 59, 58, 33, 124, 39]⟩ w (by decide)
 have cS := In_any v ⟨#[102, 116, 114, 40, 41, 91, 93, 45, 34]⟩ w (by decide)
 have cM := In_any v ⟨#[109, 119, 77, 87, 64]⟩ w (by decide)
 change Calls _ _ _ _ (fun e w' => e = .returned (.bool (memb narrowL v)) ∧ w' = w) at cN
 change Calls _ _ _ _ (fun e w' => e = .returned (.bool (memb slimL v)) ∧ w' = w) at cS
 change Calls _ _ _ _ (fun e w' => e = .returned (.bool (memb wideL v)) ∧ w' = w) at cM
 have hwd : width v = if memb narrowL v then 3 else if memb slimL v then 4 else if memb wideL v then 9 else if 65 ≤ v ∧ v ≤ 90 then 7 else if 33 ≤ v ∧ v ≤ 126 then 6 else 10 := rfl
 generalize memb narrowL v = i1 at *
 generalize memb slimL v = i2 at *
 generalize memb wideL v = i3 at *
 have hcs : (i1 = true ∧ width v = 3) ∨ (i1 = false ∧ i2 = true ∧ width v = 4) ∨ (i1 = false ∧ i2 = false ∧ i3 = true ∧ width v = 9) ∨ (i1 = false ∧ i2 = false ∧ i3 = false ∧ 65 ≤ v ∧ v ≤ 90 ∧ width v = 7) ∨
   (i1 = false ∧ i2 = false ∧ i3 = false ∧ v < 65 ∧ v < 33 ∧ width v = 10) ∨ (i1 = false ∧ i2 = false ∧ i3 = false ∧ v < 65 ∧ 33 ≤ v ∧ v ≤ 126 ∧ width v = 6) ∨ (i1 = false ∧ i2 = false ∧ i3 = false ∧ 65 ≤ v ∧ 90 < v ∧ 33 ≤ v ∧ v ≤ 126 ∧ width v = 6) ∨ (i1 = false ∧ i2 = false ∧ i3 = false ∧ 65 ≤ v ∧ 90 < v ∧ 33 ≤ v ∧ 126 < v ∧ width v = 10) := by
  cases i1 with
  | true => exact .inl ⟨rfl, hwd⟩
  | false =>
   cases i2 with
   | true => exact .inr (.inl ⟨rfl, rfl, hwd⟩)
   | false =>
    cases i3 with
    | true => exact .inr (.inr (.inl ⟨rfl, rfl, rfl, hwd⟩))
    | false =>
     simp only [Bool.false_eq_true, if_false] at hwd
     by_cases p4 : 65 ≤ v ∧ v ≤ 90
     ·rw [if_pos p4] at hwd
      exact .inr (.inr (.inr (.inl ⟨rfl, rfl, rfl, p4.1, p4.2, hwd⟩)))
     ·rw [if_neg p4] at hwd
      by_cases p5 : v < 33
      ·rw [if_neg (by omega)] at hwd
       exact .inr (.inr (.inr (.inr (.inl ⟨rfl, rfl, rfl, by omega, p5, hwd⟩))))
      ·by_cases p6 : v < 65
       ·rw [if_pos (by omega)] at hwd
        exact .inr (.inr (.inr (.inr (.inr (.inl ⟨rfl, rfl, rfl, p6, by omega, by omega, hwd⟩)))))
       ·by_cases p7 : v ≤ 126
        ·rw [if_pos (by omega)] at hwd
         exact .inr (.inr (.inr (.inr (.inr (.inr (.inl ⟨rfl, rfl, rfl, by omega, by omega, by omega, p7, hwd⟩))))))
        ·rw [if_neg (by omega)] at hwd
         exact .inr (.inr (.inr (.inr (.inr (.inr (.inr ⟨rfl, rfl, rfl, by omega, by omega, by omega, by omega, hwd⟩))))))
 clear hwd
 rcases hcs with ⟨rfl, hw⟩ | ⟨rfl, rfl, hw⟩ | ⟨rfl, rfl, rfl, hw⟩ | ⟨rfl, rfl, rfl, p4, p5, hw⟩ | ⟨rfl, rfl, rfl, p4, p5, hw⟩ | ⟨rfl, rfl, rfl, p4, p5, p6, hw⟩ | ⟨rfl, rfl, rfl, p4, p5, p6, p7, hw⟩ | ⟨rfl, rfl, rfl, p4, p5, p6, p7, hw⟩
 all_goals
  replace hw := hid hw
  go_enter Tryz.func65, Tryz.ntmps65
  go_wp2_with (fail)
  refine cN.mono ?_
  rintro e w' ⟨rfl, rfl⟩
  try
   go_wp2_with (fail)
   refine cS.mono ?_
   rintro e w' ⟨rfl, rfl⟩
  try
   go_wp2_with (fail)
   refine cM.mono ?_
   rintro e w' ⟨rfl, rfl⟩
  go_wp2
  go_ret
  exact ⟨by rw [Hid.out hw]; rfl, rfl⟩

/-- how wide signs are together -/
def sumw (l : List Int) : Int := (l.map width).sum
theorem sumw_append (a b : List Int) : sumw (a ++ b) = sumw a + sumw b := by simp [sumw]
theorem sumw_bd : ∀ l : List Int, 0 ≤ sumw l ∧ sumw l ≤ 10 * l.length
 | [] => ⟨by decide, by decide⟩
 | x :: l => by
  have h1 := sumw_bd l
  have h2 := width_bd x
  have : sumw (x :: l) = width x + sumw l := by simp [sumw]
  rw [this, List.length_cons]; omega
theorem sumw_take {l : List Int} {k : Nat} (h : k < l.length) : sumw (l.take (k + 1)) = sumw (l.take k) + width l[k] := by
 rw [List.take_succ_eq_append_getElem h, sumw_append]; simp [sumw]

set_option maxRecDepth 100000 in
set_option maxHeartbeats 2000000 in
theorem Sum_any (v : Value) (l : List Int) (w : World) (hl : l.length ≤ 2000000) (hsl : Sl w 1 encI v l) (hr : ∀ x ∈ l, -9223372036854775808 ≤ x ∧ x ≤ 9223372036854775807) :
  Calls Tryz.prog 72 #[v, .func (.func 74) #[] #[]] w fun e w' => e = .returned (.int .i64 (sumw l)) ∧ w' = w := by
 obtain ⟨p, cap, rfl, hmx⟩ := hsl.shape
 go_enter Tryz.func72, Tryz.ntmps72
 go_wp2
 go_loopw [5, 7, 10] (fun a _ i wr => ∃ k : Nat, k ≤ l.length ∧ a = .int .i64 (sumw (l.take k)) ∧ i = .int .i64 k ∧ wr = w) (fun _ _ i _ => l.length - (RowKit.intOf i).toNat)
 case atStart => exact ⟨0, Nat.zero_le _, rfl, rfl, rfl⟩
 case round =>
  obtain ⟨k, hk, rfl, rfl, rfl⟩ := hrel
  have hbd := sumw_bd (l.take k)
  by_cases hkl : k < l.length
  ·have hne : l ≠ [] := by intro h; rw [h] at hkl; simp at hkl
   obtain ⟨b, o, cap', he, h1, h2, h3⟩ := hsl.open hne
   cases he
   have hc := rangeAt_one (h3 k l[k] (List.getElem?_eq_getElem hkl))
   simp only [Nat.mul_one] at hc
   have hnx := sumw_take hkl
   have hxr := hr l[k] (List.getElem_mem hkl)
   have hwb := width_bd l[k]
   have hcall := Sign_any l[k] wr hxr.1 hxr.2
   rw [List.length_take] at hbd
   generalize l[k] = x at *
   obtain ⟨S, hS⟩ : ∃ S, sumw (l.take k) = S := ⟨_, rfl⟩
   rw [hS] at hnx hbd ⊢
   have Hnx := hid hnx
   obtain ⟨X, hX⟩ : ∃ X, width x = X := ⟨_, rfl⟩
   rw [hX] at hcall hwb
   have HX := hid hX
   clear hnx hS hX h3 hr hsl hxr
   go_wp2_with (fail)
   refine hcall.mono ?_
   rintro e w' ⟨rfl, rfl⟩
   go_wp2
   refine ⟨⟨k + 1, by omega, ?_, rfl, trivial⟩, ?_⟩
   ·rw [Hid.out Hnx, Hid.out HX]
   ·simp only [RowKit.intOf]; omega
  ·obtain rfl : k = l.length := by omega
   rw [List.take_length] at *
   clear hr hsl
   go_wp2
   go_ret
   exact ⟨rfl, rfl⟩

set_option maxRecDepth 100000 in
set_option maxHeartbeats 2000000 in
theorem MText2_any (s : ByteArray) (w : World) (hs : s.size ≤ 2000000) (hT : Tabs w) :
  Calls Tryz.prog 45 #[.string s] w fun e w' => e = .returned (.int .i64 (sumw (sgn s.data.toList))) ∧ Below w.heap.size w w' := by
 have c1 := Signs_any s w hs hT
 have hlen := sgn_len s
 have hrng := hid (sgn_rng s.data.toList)
 clear hT
 go_enter Tryz.func45, Tryz.ntmps45
 go_wp2_with (fail)
 refine c1.mono ?_
 rintro e w1 ⟨v, rfl, hv, hB⟩
 have c2 := Sum_any v _ w1 (by omega) hv (Hid.out hrng)
 clear c1 hv
 go_wp2_with (fail)
 refine c2.mono ?_
 rintro e w' ⟨rfl, rfl⟩
 go_wp2
 go_ret
 exact ⟨rfl, hB⟩

theorem MText_any (s : ByteArray) (w : World) (hs : s.size ≤ 2000000) (hT : Tabs w) :
  Calls Tryz.prog 45 #[.string s] w fun e w' => e = .returned (.int .i64 (sumw (sgn s.data.toList))) ∧ Below w.heap.size w w' := MText2_any s w (Nat.le_trans hs (by decide)) hT
set_option maxRecDepth 100000 in
set_option maxHeartbeats 2000000 in
theorem RMText_any (s : ByteArray) (w : World) (hs : s.size ≤ 2000000) :
  Calls Tryz.prog 60 #[.string s] w fun e w' => e = .returned (.int .i64 (sumw (sgn s.data.toList))) ∧ Below w.heap.size w w' := by
 have c1 := RSigns_any s w hs
 have hlen := sgn_len s
 have hrng := sgn_rng s.data.toList
 obtain ⟨l, hl⟩ : ∃ l, sgn s.data.toList = l := ⟨_, rfl⟩
 rw [hl] at c1 hlen hrng ⊢
 obtain ⟨d, hd⟩ : ∃ d, Lib.validD s.data.toList = d := ⟨_, rfl⟩
 rw [hd] at c1
 clear hl hd
 have hl2 : l.length ≤ 2000000 := by omega
 replace hrng := hid hrng
 go_enter Tryz.func60, Tryz.ntmps60
 go_wp2_with (fail)
 refine c1.mono ?_
 rintro e w1 ⟨v, rfl, hv, hB⟩
 clear c1
 obtain ⟨p, cap, rfl, hmx⟩ := hv.shape
 replace hv := hid hv
 have hfd : ∀ w : World, (Instr.field 111 (.agg #[.slice p l.length cap, .bool d]) 0).run Tryz.prog w = .ok (.slice p l.length cap) w := fun _ => by kernel_rfl
 go_wp2
 go_loopw [3, 5] (fun a i wr => ∃ k : Nat, k ≤ l.length ∧ a = .int .i64 (sumw (l.take k)) ∧ i = .int .i64 k ∧ wr = w1) (fun _ i _ => l.length - (RowKit.intOf i).toNat)
 case atStart => exact ⟨0, Nat.zero_le _, rfl, rfl, rfl⟩
 case round =>
  obtain ⟨k, hk, rfl, rfl, rfl⟩ := hrel
  have hbd := sumw_bd (l.take k)
  by_cases hkl : k < l.length
  ·have hne : l ≠ [] := by intro h; rw [h] at hkl; simp at hkl
   obtain ⟨b, o, cap', he, h1, h2, h3⟩ := (Hid.out hv).open hne
   cases he
   have hc := rangeAt_one (h3 k l[k] (List.getElem?_eq_getElem hkl))
   simp only [Nat.mul_one] at hc
   have hnx := sumw_take hkl
   have hxr := (Hid.out hrng) l[k] (List.getElem_mem hkl)
   have hwb := width_bd l[k]
   have hcall := RSign_any l[k] wr hxr.1 hxr.2
   rw [List.length_take] at hbd
   generalize l[k] = x at *
   obtain ⟨S, hS⟩ : ∃ S, sumw (l.take k) = S := ⟨_, rfl⟩
   rw [hS] at hnx hbd ⊢
   have Hnx := hid hnx
   obtain ⟨X, hX⟩ : ∃ X, width x = X := ⟨_, rfl⟩
   rw [hX] at hcall hwb
   have HX := hid hX
   clear hnx hS hX h3 hxr
   go_wp2_with (fail)
   refine hcall.mono ?_
   rintro e w' ⟨rfl, rfl⟩
   go_wp2
   refine ⟨⟨k + 1, by omega, ?_, rfl, trivial⟩, ?_⟩
   ·rw [Hid.out Hnx, Hid.out HX]
   ·simp only [RowKit.intOf]; omega
  ·obtain rfl : k = l.length := by omega
   rw [List.take_length] at *
   go_wp2
   go_ret
   exact ⟨rfl, hB⟩

end Go.Proofs.YtempicociampoaaGreatDoor
namespace Go.Proofs.YtempicociampoaaGreatDoor
open Go.RowKit Go.Shelf Go.Lib

theorem plain_sgn {but : Int} (hb : but ≤ 127) (l : L8) : plainB but l ↔ validD l = true ∧ ∀ x ∈ sgn l, okS but x := by
 unfold plainB
 refine and_congr_right fun hv => ?_
 obtain ⟨h1, h2⟩ := sgn_yes hv
 conv => lhs; rw [h2]
 exact clean_txt hb h1
/-- the reference's guard says what okS denies -/
theorem okS_guard {lines : Bool} {but : Int} (hbut : (lines = true ∧ but = 10) ∨ (lines = false ∧ but = 33)) (x : Int) : okS but x ↔ ¬ ((x < 32 ∧ (x ≠ 10 ∨ lines = false)) ∨ x = 127) := by
 unfold okS
 rcases hbut with ⟨rfl, rfl⟩ | ⟨rfl, rfl⟩
 ·simp; omega
 ·simp; omega

set_option maxRecDepth 100000 in
set_option maxHeartbeats 4000000 in
theorem rplain_any (s : ByteArray) (lines : Bool) (but : Int) (hbut : (lines = true ∧ but = 10) ∨ (lines = false ∧ but = 33)) (w : World) (hs : s.size ≤ 2000000) :
  Calls Tryz.prog 37 #[.string s, .bool lines] w fun e w' => e = .returned (.bool (decide (plainB but s.data.toList))) ∧ Below w.heap.size w w' := by
 have cR := hid (RSigns_any s w hs)
 have hpl := plain_sgn (but := but) (by rcases hbut with ⟨-, rfl⟩ | ⟨-, rfl⟩ <;> decide) s.data.toList
 have hgu := fun x => okS_guard hbut x
 have hln := sgn_len s
 have hrg := sgn_rng s.data.toList
 have hnv : validD s.data.toList = false → sgn s.data.toList = [] := sgn_no
 generalize validD s.data.toList = vd at *
 generalize sgn s.data.toList = L at *
 obtain ⟨dp, hdp⟩ : ∃ d : Bool, decide (plainB but s.data.toList) = d := ⟨_, rfl⟩
 rw [hdp]
 have hno : (∃ x ∈ L, ¬ okS but x) → dp = false := by
  rintro ⟨x, hx, hb⟩
  rw [← hdp, decide_eq_false_iff_not, hpl]
  exact fun h => hb (h.2 x hx)
 have hyes : (∀ x ∈ L, okS but x) → dp = vd := by
  intro h
  rw [← hdp, Bool.eq_iff_iff, decide_eq_true_iff, hpl]
  exact ⟨fun h => h.1, fun hv => ⟨hv, h⟩⟩
 clear hpl hdp hbut hnv
 replace hno := hid hno
 replace hyes := hid hyes
 replace hgu := hid hgu
 replace hrg := hid hrg
 go_enter Tryz.func37, Tryz.ntmps37
 go_wp2_with (fail)
 refine cR.out.mono ?_
 rintro e w1 ⟨v, rfl, sl, b1⟩
 obtain ⟨p, cap, rfl, -⟩ := sl.shape
 have hbx : (w1.alloc (.cells #[.slice p L.length cap, .bool vd] 111)).heap[w1.heap.size]? = some (.cells #[.slice p L.length cap, .bool vd] 111 (0, 0)) := World.alloc_heap_new w1 _
 obtain ⟨W2, hW2⟩ : ∃ V, w1.alloc (.cells #[.slice p L.length cap, .bool vd] 111) = V := ⟨_, rfl⟩
 rw [hW2] at hbx
 have f0 := cell_blk (i := 0) hbx rfl
 have f1 := cell_blk (i := 1) hbx rfl
 have sl2 : Sl W2 1 encI (.slice p L.length cap) L := by rw [← hW2]; exact (Kept.alloc 0 _ _).sl sl
 have B2 : Below w.heap.size w W2 := by rw [← hW2]; exact b1.alloc b1.size _
 clear cR sl
 go_wp2_with (fail)
 replace hW2 := hid hW2
 go_loopw [6, 7] (fun i _ wr => ∃ k : Nat, k ≤ L.length ∧ i = .int .i64 k ∧ (∀ x ∈ L.take k, okS but x) ∧ W2 = wr) (fun i _ _ => L.length - (RowKit.intOf i).toNat)
 case atStart => exact ⟨0, Nat.zero_le _, rfl, by simp, rfl⟩
 case round =>
  obtain ⟨k, hk, rfl, hall, rfl⟩ := hrel
  by_cases hkl : k < L.length
  ·have hkI : (k : Int) < (L.length : Int) := by omega
   obtain ⟨xb, xo, cap2, he, h4, h5, hc2⟩ := sl2.open (by rintro rfl; simp at hkl)
   simp only [Value.slice.injEq] at he
   obtain ⟨rfl, -, rfl⟩ := he
   have hck := rangeAt_one (hc2 k L[k] (List.getElem?_eq_getElem hkl))
   rw [Nat.mul_one] at hck
   have hmem := List.getElem_mem hkl
   have htk : L.take (k + 1) = L.take k ++ [L[k]] := List.take_succ_eq_append_getElem hkl
   clear hc2
   generalize L[k] = x at *
   have hr := hrg.out x hmem
   by_cases hbad : okS but x
   ·have hnb := (hgu.out x).1 hbad
    have hnx : ∀ y ∈ L.take (k + 1), okS but y := by
     rw [htk]
     intro y hy
     rcases List.mem_append.1 hy with h | h
     ·exact hall y h
     ·obtain rfl := List.mem_singleton.1 h
      exact hbad
    replace hnx := hid hnx
    replace htk := hid htk
    replace hall := hid hall
    by_cases h32 : x < 32
    ·have hx10 : (x != 10) = false := by
      have : ¬ (x ≠ 10 ∨ lines = false) := fun h => hnb (.inl ⟨h32, h⟩)
      simp only [bne_eq_false_iff_eq]
      by_cases h : x = 10
      ·exact h
      ·exact absurd (.inl h) this
     have hln : (!lines) = false := by
      have : ¬ (x ≠ 10 ∨ lines = false) := fun h => hnb (.inl ⟨h32, h⟩)
      cases lines
      ·exact absurd (.inr rfl) this
      ·rfl
     have h127 : (x == 127) = false := by simp only [beq_eq_false_iff_ne, ne_eq]; omega
     replace hnb := hid hnb
     go_wp2_with (fail)
     refine ⟨⟨k + 1, by omega, by go_num, hnx.out, by trivial⟩, by simp [RowKit.intOf]; omega⟩
    ·have h127 : (x == 127) = false := by
      simp only [beq_eq_false_iff_ne, ne_eq]
      exact fun h => hnb (.inr h)
     replace hnb := hid hnb
     go_wp2_with (fail)
     refine ⟨⟨k + 1, by omega, by go_num, hnx.out, by trivial⟩, by simp [RowKit.intOf]; omega⟩
   ·have hdf := hno.out ⟨x, hmem, hbad⟩
    have hb : (x < 32 ∧ (x ≠ 10 ∨ lines = false)) ∨ x = 127 := by
     by_cases h : (x < 32 ∧ (x ≠ 10 ∨ lines = false)) ∨ x = 127
     ·exact h
     ·exact absurd ((hgu.out x).2 h) hbad
    replace hdf := hid hdf
    replace htk := hid htk
    replace hall := hid hall
    by_cases h32 : x < 32
    ·have h127 : (x == 127) = false := by simp only [beq_eq_false_iff_ne, ne_eq]; omega
     have hb2 : x ≠ 10 ∨ lines = false := by
      rcases hb with h | h
      ·exact h.2
      ·omega
     by_cases h10 : x = 10
     ·have hx10 : (x != 10) = false := by rw [h10]; rfl
      have hln : lines = false := by
       rcases hb2 with h | h
       ·exact absurd h10 h
       ·exact h
      subst hln
      replace h10 := hid h10
      clear hb hb2
      go_wp2_with (fail)
      go_ret
      exact ⟨by rw [hdf.out]; rfl, B2⟩
     ·have hx10 : (x != 10) = true := by simpa using h10
      replace h10 := hid h10
      clear hb hb2
      go_wp2_with (fail)
      go_ret
      exact ⟨by rw [hdf.out]; rfl, B2⟩
    ·have h127 : (x == 127) = true := by
      rcases hb with h | h
      ·exact absurd h.1 h32
      ·rw [h]; rfl
     clear hb
     go_wp2_with (fail)
     go_ret
     exact ⟨by rw [hdf.out]; rfl, B2⟩
  ·obtain rfl : k = L.length := by omega
   rw [List.take_length] at hall
   have hy := hid (hyes.out hall)
   clear hall
   go_wp2_with (fail)
   go_ret
   exact ⟨by rw [hy.out]; rfl, B2⟩
end Go.Proofs.YtempicociampoaaGreatDoor
