/- The walk of the reference's Good (printed by gen_mkx.py). -/
import Derived.Test.YtempicociampoaaGreatDoorJ0
import Derived.Test.YtempicociampoaaGreatDoorJ18
import Derived.Test.YtempicociampoaaGreatDoorJ17
import Derived.Deep.QuietTactic
import Derived.Deep.DeepCutAuto
namespace Go.Proofs.YtempicociampoaaGreatDoor
open Go.RowKit Go.Shelf Go.Lib

theorem goodW_words {T : ByteArray} (h : goodW T.data.toList) : wdsB T = [T] := by
 rw [wdsB_words, wordsL_one h.1 h.2.2]
 show [toB T.data.toList] = [T]
 rw [ba_toB]
theorem goodW_of {T : ByteArray} (h0 : plainB 33 T.data.toList) (h : wdsB T = [T]) : goodW T.data.toList := by
 have hm : T.data.toList ∈ wordsL T.data.toList := by
  rw [← wds8, h]; simp
 exact ⟨(wordsL_mem hm).1, h0, (wordsL_mem hm).2⟩

set_option maxRecDepth 100000 in
set_option maxHeartbeats 8000000 in
theorem rGood_any (v : Value) (L : List Pt) (w : World) (hsl : Sl w 2 encPt v L) (hws : ∀ x ∈ L, Sl w 1 encT x.2.1 x.2.2) (hsz : ∀ x ∈ L, ∀ s ∈ x.2.2, s.size ≤ 2000000) :
  Calls Tryz.prog 19 #[v] w fun e w' => e = .returned (.bool (allG L)) ∧ Below w.heap.size w w' := by
 obtain ⟨p, cap, rfl, hmx⟩ := hsl.shape
 unfold maxLen at hmx
 have hnoL : ∀ x ∈ L, goodB x.1 x.2.2 = false → allG L = false := fun x hx h => by
  unfold allG
  rw [List.all_eq_false]
  exact ⟨x, hx, by simp [h]⟩
 replace hnoL := hid hnoL
 go_enter Tryz.func19, Tryz.ntmps19
 go_wp2_with (fail)
 go_loopw [3, 4, 5] (fun i _ _ wr => ∃ k : Nat, k ≤ L.length ∧ i = .int .i64 k ∧ (∀ x ∈ L.take k, goodB x.1 x.2.2 = true) ∧ Below w.heap.size w wr) (fun i _ _ _ => L.length - (RowKit.intOf i).toNat)
 case atStart => exact ⟨0, Nat.zero_le _, rfl, by simp, Below.refl _ _⟩
 case round =>
  obtain ⟨k, hk, rfl, hall, hB⟩ := hrel
  by_cases hkl : k < L.length
  ·have hkI : (k : Int) < (L.length : Int) := by omega
   obtain ⟨mb, mo, cap2, he, h1, h2, hc⟩ := hsl.open (by rintro rfl; simp at hkl)
   simp only [Value.slice.injEq] at he
   obtain ⟨rfl, -, rfl⟩ := he
   have ra := (Kept.of_below hB 0).range (hc k L[k] (List.getElem?_eq_getElem hkl))
   have r0 : wr.cell? ⟨mb, mo + k * 2, none⟩ = some (.int .i64 L[k].1) := ra 0 _ rfl
   have r1 : wr.cell? ⟨mb, mo + k * 2 + 1, none⟩ = some L[k].2.1 := ra 1 _ rfl
   have sw0 := (Kept.of_below hB 0).sl (hws L[k] (List.getElem_mem _))
   have hwz := hid (hsz L[k] (List.getElem_mem _))
   have hnok := hid (hnoL.out L[k] (List.getElem_mem _))
   have htk := hid (List.take_succ_eq_append_getElem hkl)
   obtain ⟨pw, cw, ew, hwx⟩ := sw0.shape
   rw [ew] at r1 sw0
   unfold maxLen at hwx
   clear hc ra ew
   replace hall := hid hall
   have hgb := hid (show ∀ kd ws, goodB kd ws = ((ws.all fun x => decide (goodW x.data.toList)) && kindB kd ws) from fun _ _ => rfl)
   generalize L[k] = X at *
   obtain ⟨ws, hX⟩ : ∃ ws, X.2.2 = ws := ⟨_, rfl⟩
   obtain ⟨kd, hX1⟩ : ∃ kd, X.1 = kd := ⟨_, rfl⟩
   rw [hX] at r1 sw0 hwx hwz hnok
   rw [hX1] at r0 hnok
   have hbx := World.alloc_heap_new wr (.cells #[.int .i64 kd, .slice pw ws.length cw] 24)
   have hzb : wr.heap.size < (wr.alloc (.cells #[.int .i64 kd, .slice pw ws.length cw] 24)).heap.size := by simp
   obtain ⟨W2, hW2⟩ : ∃ V, wr.alloc (.cells #[.int .i64 kd, .slice pw ws.length cw] 24) = V := ⟨_, rfl⟩
   rw [hW2] at hbx hzb
   have f0 := cell_blk (i := 0) hbx rfl
   have f1 := cell_blk (i := 1) hbx rfl
   have sw : Sl W2 1 encT (.slice pw ws.length cw) ws := by rw [← hW2]; exact (Kept.alloc 0 _ _).sl sw0
   have BW2 : Below w.heap.size w W2 := by rw [← hW2]; exact hB.alloc hB.size _
   replace hX := hid hX
   replace hX1 := hid hX1
   clear sw0
   by_cases hlo : kd < 1
   ·have hbad := hid (hnok.out (by 
     rw [hgb.out, Bool.and_eq_false_iff]
     right
     unfold kindB
     rw [if_neg (by omega), if_neg (by omega), if_neg (by omega)]))
    go_wp2_with (fail)
    go_ret
    exact ⟨by rw [hbad.out]; rfl, BW2⟩
   ·by_cases hhi : 4 < kd
    ·have hbad := hid (hnok.out (by 
      rw [hgb.out, Bool.and_eq_false_iff]
      right
      unfold kindB
      rw [if_neg (by omega), if_neg (by omega), if_neg (by omega)]))
     go_wp2_with (fail)
     go_ret
     exact ⟨by rw [hbad.out]; rfl, BW2⟩
    ·obtain ⟨e4, h4b⟩ : ∃ b : Bool, (kd == 4) = b := ⟨_, rfl⟩
     obtain ⟨e0, h0b⟩ : ∃ b : Bool, ((ws.length : Int) == 0) = b := ⟨_, rfl⟩
     by_cases hee : e4 = e0
     ·subst hee
      have hne : (e4 != e4) = false := bne_self_eq_false e4
      go_wp2_with (fail)
      replace hW2 := hid hW2
      go_loopw [5] (fun i wv => ∃ m : Nat, m ≤ ws.length ∧ i = .int .i64 m ∧ (∀ x ∈ ws.take m, goodW x.data.toList) ∧ Below W2.heap.size W2 wv) (fun i _ => ws.length - (RowKit.intOf i).toNat)
      case atStart => exact ⟨0, Nat.zero_le _, rfl, by simp, Below.refl _ _⟩
      case round =>
       obtain ⟨m, hm, rfl, hgood, hB2⟩ := hrel
       have g1 := cell_blk (i := 1) ((hB2.block _ hzb).trans hbx) rfl
       by_cases hml : m < ws.length
       ·have hmI : (m : Int) < (ws.length : Int) := by omega
        obtain ⟨xb, xo, cap3, he, h5, h6, hc3⟩ := sw.open (by rintro rfl; simp at hml)
        simp only [Value.slice.injEq] at he
        obtain ⟨rfl, -, rfl⟩ := he
        have hxm := rangeAt_one (hc3 m ws[m] (List.getElem?_eq_getElem hml))
        rw [Nat.mul_one] at hxm
        have hTz := hwz.out ws[m] (List.getElem_mem hml)
        have htm := hid (List.take_succ_eq_append_getElem hml)
        have hmem := hid (List.getElem_mem hml)
        clear hc3
        generalize ws[m] = T at *
        replace hxm := hid hxm
        have cP := hid (fun V => rplain_any T false 33 (.inr ⟨rfl, rfl⟩) V hTz)
        have cQ := hid (fun V => rWords_any T V hTz)
        have hBd := Below_dr hB2
        have gxd := (Kept.of_below hBd 0).cell hxm.out
        have g1d := cell_blk (i := 1) ((hBd.block _ hzb).trans hbx) rfl
        have hgd := goodW_words (T := T)
        have hgo := goodW_of (T := T)
        have hge := empty8 T
        generalize wdsB T = ys at *
        go_upto_region 10 with (fail)
        go_cut [81] (fun c wx => c = .bool (!decide (goodW T.data.toList)) ∧ Below W2.heap.size W2 wx)
        case first =>
         by_cases hT0 : T.data.toList = []
         ·have hTe : T.toList.isEmpty = true := by rw [hge]; exact decide_eq_true hT0
          have hng : decide (goodW T.data.toList) = false := decide_eq_false (fun h => h.1 hT0)
          replace hng := hid hng
          clear hgd hgo hge cP cQ
          refine wp_region_any (by kernel_rfl) ?_
          try (change wpAny _ _ _ _ _ _ _ (World.drew _))
          refine tkA 0 (some 41) ?_ rfl (Or.inl ⟨by rfl, ?_⟩) ?_; rotate_left
          ·intro w; go_simp <;> with_reducible rfl
          simp only [Act.put, aS, aZ, aC]
          refine tkA 2 (some 43) ?_ rfl (Or.inl ⟨by rfl, ?_⟩) ?_; rotate_left
          ·intro w; go_simp <;> with_reducible rfl
          simp only [Act.put, aS, aZ, aC]
          refine wpAny_ready (rs := [1]) (by kernel_rfl) (by simp) ?_
          refine AllReady.cons rfl (fun K hK => ?_) AllReady.nil
          go_simp
          first | refine hK _ _ ?_ | refine ⟨trivial, hK _ _ ?_⟩ | refine ⟨fun _ _ => trivial, hK _ _ ?_⟩
          clear hK K
          refine tkA 3 (some 44) ?_ rfl (Or.inl ⟨by rfl, ?_⟩) ?_; rotate_left
          ·intro w; go_simp <;> with_reducible rfl
          simp only [Act.put, aS, aZ, aC]
          refine wpAny_ready (rs := [4]) (by kernel_rfl) (by simp) ?_
          refine AllReady.cons rfl (fun K hK => ?_) AllReady.nil
          go_simp
          first | refine hK _ _ ?_ | refine ⟨trivial, hK _ _ ?_⟩ | refine ⟨fun _ _ => trivial, hK _ _ ?_⟩
          clear hK K
          refine tkA 5 (some 46) ?_ rfl (Or.inl ⟨by rfl, ?_⟩) ?_; rotate_left
          ·intro w; go_simp <;> with_reducible rfl
          simp only [Act.put, aS, aZ, aC]
          try simp only [hTe]
          refine tkA 6 (some 47) ?_ rfl (Or.inl ⟨by rfl, ?_⟩) ?_; rotate_left
          ·intro w; go_simp <;> with_reducible rfl
          simp only [Act.put, aS, aZ, aC]
          refine tkA 7 (some 48) _ rfl (Or.inr ⟨by rfl, rfl⟩) ?_
          simp only [Act.put, aS, aZ, aC]
          refine tkA 8 (some 49) _ rfl (Or.inr ⟨by rfl, rfl⟩) ?_
          simp only [Act.put, aS, aZ, aC]
          refine tkA 9 (some 50) _ rfl (Or.inr ⟨by rfl, rfl⟩) ?_
          simp only [Act.put, aS, aZ, aC]
          refine tkA 10 (some 51) _ rfl (Or.inr ⟨by rfl, rfl⟩) ?_
          simp only [Act.put, aS, aZ, aC]
          refine tkA 11 (some 52) _ rfl (Or.inr ⟨by rfl, rfl⟩) ?_
          simp only [Act.put, aS, aZ, aC]
          refine wpAny_ready (rs := [12]) (by kernel_rfl) (by simp) ?_
          refine AllReady.cons rfl (fun K hK => ?_) AllReady.nil
          go_simp
          first | refine ⟨fun _ _ => trivial, hK _ _ ?_⟩ | refine hK _ _ ?_ | refine ⟨trivial, hK _ _ ?_⟩
          clear hK K
          refine tkA 13 (some 54) _ rfl (Or.inr ⟨by rfl, rfl⟩) ?_
          simp only [Act.put, aS, aZ, aC]
          refine tkA 14 (some 55) ?_ rfl (Or.inl ⟨by rfl, ?_⟩) ?_; rotate_left
          ·intro w; go_simp <;> with_reducible rfl
          simp only [Act.put, aS, aZ, aC]
          refine tkA 15 (some 56) ?_ rfl (Or.inl ⟨by rfl, ?_⟩) ?_; rotate_left
          ·intro w; go_simp <;> with_reducible rfl
          simp only [Act.put, aS, aZ, aC]
          refine tkA 16 (some 57) _ rfl (Or.inr ⟨by rfl, rfl⟩) ?_
          simp only [Act.put, aS, aZ, aC]
          refine tkA 17 (some 58) _ rfl (Or.inr ⟨by rfl, rfl⟩) ?_
          simp only [Act.put, aS, aZ, aC]
          refine tkA 18 (some 59) _ rfl (Or.inr ⟨by rfl, rfl⟩) ?_
          simp only [Act.put, aS, aZ, aC]
          refine tkA 19 (some 60) _ rfl (Or.inr ⟨by rfl, rfl⟩) ?_
          simp only [Act.put, aS, aZ, aC]
          refine tkA 20 (some 61) _ rfl (Or.inr ⟨by rfl, rfl⟩) ?_
          simp only [Act.put, aS, aZ, aC]
          refine wpAny_ready (rs := [21]) (by kernel_rfl) (by simp) ?_
          refine AllReady.cons rfl (fun K hK => ?_) AllReady.nil
          go_simp
          first | refine ⟨fun _ _ => trivial, hK _ _ ?_⟩ | refine hK _ _ ?_ | refine ⟨trivial, hK _ _ ?_⟩
          clear hK K
          refine tkA 22 (some 63) _ rfl (Or.inr ⟨by rfl, rfl⟩) ?_
          simp only [Act.put, aS, aZ, aC]
          refine tkA 23 (some 64) _ rfl (Or.inr ⟨by rfl, rfl⟩) ?_
          simp only [Act.put, aS, aZ, aC]
          try simp only [hTe]
          refine tkA 24 (some 65) ?_ rfl (Or.inl ⟨by rfl, ?_⟩) ?_; rotate_left
          ·intro w; go_simp <;> with_reducible rfl
          simp only [Act.put, aS, aZ, aC]
          refine tkA 25 (some 66) ?_ rfl (Or.inl ⟨by rfl, ?_⟩) ?_; rotate_left
          ·intro w; go_simp <;> with_reducible rfl
          simp only [Act.put, aS, aZ, aC]
          refine tkA 26 (some 67) _ rfl (Or.inr ⟨by rfl, rfl⟩) ?_
          simp only [Act.put, aS, aZ, aC]
          refine tkA 27 (some 68) _ rfl (Or.inr ⟨by rfl, rfl⟩) ?_
          simp only [Act.put, aS, aZ, aC]
          refine tkA 28 (some 69) _ rfl (Or.inr ⟨by rfl, rfl⟩) ?_
          simp only [Act.put, aS, aZ, aC]
          refine tkA 29 (some 70) _ rfl (Or.inr ⟨by rfl, rfl⟩) ?_
          simp only [Act.put, aS, aZ, aC]
          refine tkA 30 (some 71) _ rfl (Or.inr ⟨by rfl, rfl⟩) ?_
          simp only [Act.put, aS, aZ, aC]
          refine tkA 34 (some 75) _ rfl (Or.inr ⟨by rfl, rfl⟩) ?_
          simp only [Act.put, aS, aZ, aC]
          refine tkA 35 (some 76) _ rfl (Or.inr ⟨by rfl, rfl⟩) ?_
          simp only [Act.put, aS, aZ, aC]
          refine tkA 36 (some 77) _ rfl (Or.inr ⟨by rfl, rfl⟩) ?_
          simp only [Act.put, aS, aZ, aC]
          refine tkA 37 (some 78) _ rfl (Or.inr ⟨by rfl, rfl⟩) ?_
          simp only [Act.put, aS, aZ, aC]
          refine tkA 38 (some 79) _ rfl (Or.inr ⟨by rfl, rfl⟩) ?_
          simp only [Act.put, aS, aZ, aC]
          refine wpAny_ready (rs := [31]) (by kernel_rfl) (by simp) ?_
          refine AllReady.cons rfl (fun K hK => ?_) AllReady.nil
          go_simp
          first | refine ⟨fun _ _ => trivial, hK _ _ ?_⟩ | refine hK _ _ ?_ | refine ⟨trivial, hK _ _ ?_⟩
          clear hK K
          refine tkA 32 (some 73) _ rfl (Or.inr ⟨by rfl, rfl⟩) ?_
          simp only [Act.put, aS, aZ, aC]
          refine tkA 33 (some 74) _ rfl (Or.inr ⟨by rfl, rfl⟩) ?_
          simp only [Act.put, aS, aZ, aC]
          refine tkA 39 (some 80) _ rfl (Or.inr ⟨by rfl, rfl⟩) ?_
          simp only [Act.put, aS, aZ, aC]
          try simp only [hTe]
          refine tkA 40 (some 81) ?_ rfl (Or.inl ⟨by rfl, ?_⟩) ?_; rotate_left
          ·intro w; go_simp <;> with_reducible rfl
          simp only [Act.put, aS, aZ, aC]
          refine wpAny_done (by kernel_rfl) ?_ _
          go_wp2_with (fail)
          go_meet
          case rel => exact ⟨by rw [hng.out]; rfl, hBd⟩
         ·have hTe : T.toList.isEmpty = false := by rw [hge]; exact decide_eq_false hT0
          by_cases hpl : plainB 33 T.data.toList
          ·simp only [hpl, decide_true] at cP
           by_cases hy1 : ys.length = 1
           ·obtain ⟨Y, rfl⟩ : ∃ Y, ys = [Y] := List.length_eq_one_iff.1 hy1
            simp only [List.length_cons, List.length_nil, Nat.zero_add] at cQ
            obtain ⟨yb, hyT⟩ : ∃ b : Bool, (!(Y.toList == T.toList)) = b := ⟨_, rfl⟩
            have hng : (!decide (goodW T.data.toList)) = yb := by
             rw [← hyT]
             by_cases hYT : Y = T
             ·subst hYT
              rw [decide_eq_true (hgo hpl rfl)]; simp
             ·rw [decide_eq_false (fun h => hYT (by simpa using hgd h)), Bool.not_false, eq_comm]
              show (Y.toList != T.toList) = true
              rw [bne_iff_ne, ne_eq, Lib.toList_data, Lib.toList_data]
              exact fun h => hYT (ba_ext8 h)
            replace hng := hid hng
            clear hgd hgo hge hpl hy1
            refine wp_region_any (by kernel_rfl) ?_
            try (change wpAny _ _ _ _ _ _ _ (World.drew _))
            refine tkA 0 (some 41) ?_ rfl (Or.inl ⟨by rfl, ?_⟩) ?_; rotate_left
            ·intro w; go_simp <;> with_reducible rfl
            simp only [Act.put, aS, aZ, aC]
            refine tkA 2 (some 43) ?_ rfl (Or.inl ⟨by rfl, ?_⟩) ?_; rotate_left
            ·intro w; go_simp <;> with_reducible rfl
            simp only [Act.put, aS, aZ, aC]
            refine wpAny_ready (rs := [1]) (by kernel_rfl) (by simp) ?_
            refine AllReady.cons rfl (fun K hK => ?_) AllReady.nil
            go_simp
            first | refine hK _ _ ?_ | refine ⟨trivial, hK _ _ ?_⟩ | refine ⟨fun _ _ => trivial, hK _ _ ?_⟩
            clear hK K
            refine tkA 3 (some 44) ?_ rfl (Or.inl ⟨by rfl, ?_⟩) ?_; rotate_left
            ·intro w; go_simp <;> with_reducible rfl
            simp only [Act.put, aS, aZ, aC]
            refine wpAny_ready (rs := [4]) (by kernel_rfl) (by simp) ?_
            refine AllReady.cons rfl (fun K hK => ?_) AllReady.nil
            go_simp
            first | refine hK _ _ ?_ | refine ⟨trivial, hK _ _ ?_⟩ | refine ⟨fun _ _ => trivial, hK _ _ ?_⟩
            clear hK K
            refine tkA 5 (some 46) ?_ rfl (Or.inl ⟨by rfl, ?_⟩) ?_; rotate_left
            ·intro w; go_simp <;> with_reducible rfl
            simp only [Act.put, aS, aZ, aC]
            try simp only [hTe]
            try simp only [hyT]
            refine tkA 6 (some 47) ?_ rfl (Or.inl ⟨by rfl, ?_⟩) ?_; rotate_left
            ·intro w; go_simp <;> with_reducible rfl
            simp only [Act.put, aS, aZ, aC]
            refine tkA 7 (some 48) ?_ rfl (Or.inl ⟨by rfl, ?_⟩) ?_; rotate_left
            ·intro w; go_simp <;> with_reducible rfl
            simp only [Act.put, aS, aZ, aC]
            refine tkA 9 (some 50) ?_ rfl (Or.inl ⟨by rfl, ?_⟩) ?_; rotate_left
            ·intro w; go_simp <;> with_reducible rfl
            simp only [Act.put, aS, aZ, aC]
            refine wpAny_ready (rs := [8]) (by kernel_rfl) (by simp) ?_
            refine AllReady.cons rfl (fun K hK => ?_) AllReady.nil
            go_simp
            first | refine hK _ _ ?_ | refine ⟨trivial, hK _ _ ?_⟩ | refine ⟨fun _ _ => trivial, hK _ _ ?_⟩
            clear hK K
            refine tkA 10 (some 51) ?_ rfl (Or.inl ⟨by rfl, ?_⟩) ?_; rotate_left
            ·intro w; go_simp <;> with_reducible rfl
            simp only [Act.put, aS, aZ, aC]
            refine wpAny_ready (rs := [11]) (by kernel_rfl) (by simp) ?_
            refine AllReady.cons rfl (fun K hK => ?_) AllReady.nil
            go_simp
            first | refine hK _ _ ?_ | refine ⟨trivial, hK _ _ ?_⟩ | refine ⟨fun _ _ => trivial, hK _ _ ?_⟩
            clear hK K
            refine wpAny_ready (rs := [12]) (by kernel_rfl) (by simp) ?_
            refine AllReady.cons rfl (fun K hK => ?_) AllReady.nil
            go_simp
            refine (cP.out _).mono ?_
            rintro e w12 ⟨rfl, b12⟩
            have hB12 := hBd.trans (b12.mono hBd.size)
            have g112 := cell_blk (i := 1) ((hB12.block _ hzb).trans hbx) rfl
            have gx12 := (Kept.of_below hB12 0).cell hxm.out
            first | refine hK _ _ ?_ | refine ⟨trivial, hK _ _ ?_⟩ | refine ⟨fun _ _ => trivial, hK _ _ ?_⟩
            clear hK K
            refine tkA 13 (some 54) ?_ rfl (Or.inl ⟨by rfl, ?_⟩) ?_; rotate_left
            ·intro w; go_simp <;> with_reducible rfl
            simp only [Act.put, aS, aZ, aC]
            refine tkA 14 (some 55) ?_ rfl (Or.inl ⟨by rfl, ?_⟩) ?_; rotate_left
            ·intro w; go_simp <;> with_reducible rfl
            simp only [Act.put, aS, aZ, aC]
            refine tkA 15 (some 56) ?_ rfl (Or.inl ⟨by rfl, ?_⟩) ?_; rotate_left
            ·intro w; go_simp <;> with_reducible rfl
            simp only [Act.put, aS, aZ, aC]
            refine tkA 16 (some 57) ?_ rfl (Or.inl ⟨by rfl, ?_⟩) ?_; rotate_left
            ·intro w; go_simp <;> with_reducible rfl
            simp only [Act.put, aS, aZ, aC]
            refine tkA 18 (some 59) ?_ rfl (Or.inl ⟨by rfl, ?_⟩) ?_; rotate_left
            ·intro w; go_simp <;> with_reducible rfl
            simp only [Act.put, aS, aZ, aC]
            refine wpAny_ready (rs := [17]) (by kernel_rfl) (by simp) ?_
            refine AllReady.cons rfl (fun K hK => ?_) AllReady.nil
            go_simp
            first | refine hK _ _ ?_ | refine ⟨trivial, hK _ _ ?_⟩ | refine ⟨fun _ _ => trivial, hK _ _ ?_⟩
            clear hK K
            refine tkA 19 (some 60) ?_ rfl (Or.inl ⟨by rfl, ?_⟩) ?_; rotate_left
            ·intro w; go_simp <;> with_reducible rfl
            simp only [Act.put, aS, aZ, aC]
            refine wpAny_ready (rs := [20]) (by kernel_rfl) (by simp) ?_
            refine AllReady.cons rfl (fun K hK => ?_) AllReady.nil
            go_simp
            first | refine hK _ _ ?_ | refine ⟨trivial, hK _ _ ?_⟩ | refine ⟨fun _ _ => trivial, hK _ _ ?_⟩
            clear hK K
            refine wpAny_ready (rs := [21]) (by kernel_rfl) (by simp) ?_
            refine AllReady.cons rfl (fun K hK => ?_) AllReady.nil
            go_simp
            refine (cQ.out _).mono ?_
            rintro e w21 ⟨v21, rfl, o21, b21⟩
            obtain ⟨p21, q21, rfl, -, -⟩ := owns_shape o21
            have hB21 := hB12.trans (b21.mono hB12.size)
            have g121 := cell_blk (i := 1) ((hB21.block _ hzb).trans hbx) rfl
            have gx21 := (Kept.of_below hB21 0).cell hxm.out
            first | refine hK _ _ ?_ | refine ⟨trivial, hK _ _ ?_⟩ | refine ⟨fun _ _ => trivial, hK _ _ ?_⟩
            clear hK K
            refine tkA 22 (some 63) ?_ rfl (Or.inl ⟨by rfl, ?_⟩) ?_; rotate_left
            ·intro w; go_simp <;> with_reducible rfl
            simp only [Act.put, aS, aZ, aC]
            refine tkA 23 (some 64) ?_ rfl (Or.inl ⟨by rfl, ?_⟩) ?_; rotate_left
            ·intro w; go_simp <;> with_reducible rfl
            simp only [Act.put, aS, aZ, aC]
            try simp only [hTe]
            try simp only [hyT]
            refine tkA 24 (some 65) ?_ rfl (Or.inl ⟨by rfl, ?_⟩) ?_; rotate_left
            ·intro w; go_simp <;> with_reducible rfl
            simp only [Act.put, aS, aZ, aC]
            refine tkA 25 (some 66) ?_ rfl (Or.inl ⟨by rfl, ?_⟩) ?_; rotate_left
            ·intro w; go_simp <;> with_reducible rfl
            simp only [Act.put, aS, aZ, aC]
            refine tkA 26 (some 67) ?_ rfl (Or.inl ⟨by rfl, ?_⟩) ?_; rotate_left
            ·intro w; go_simp <;> with_reducible rfl
            simp only [Act.put, aS, aZ, aC]
            refine tkA 28 (some 69) ?_ rfl (Or.inl ⟨by rfl, ?_⟩) ?_; rotate_left
            ·intro w; go_simp <;> with_reducible rfl
            simp only [Act.put, aS, aZ, aC]
            refine tkA 34 (some 75) ?_ rfl (Or.inl ⟨by rfl, ?_⟩) ?_; rotate_left
            ·intro w; go_simp <;> with_reducible rfl
            simp only [Act.put, aS, aZ, aC]
            refine tkA 36 (some 77) ?_ rfl (Or.inl ⟨by rfl, ?_⟩) ?_; rotate_left
            ·intro w; go_simp <;> with_reducible rfl
            simp only [Act.put, aS, aZ, aC]
            refine wpAny_ready (rs := [27, 35]) (by kernel_rfl) (by simp) ?_
            refine AllReady.cons rfl (fun K hK => ?_) ?_
            ·go_simp
             first | refine hK _ _ ?_ | refine ⟨trivial, hK _ _ ?_⟩ | refine ⟨fun _ _ => trivial, hK _ _ ?_⟩
             clear hK K
             refine tkA 29 (some 70) ?_ rfl (Or.inl ⟨by rfl, ?_⟩) ?_; rotate_left
             ·intro w; go_simp <;> with_reducible rfl
             simp only [Act.put, aS, aZ, aC]
             refine wpAny_ready (rs := [30, 35]) (by kernel_rfl) (by simp) ?_
             refine AllReady.cons rfl (fun K hK => ?_) ?_
             ·go_simp
              first | refine hK _ _ ?_ | refine ⟨trivial, hK _ _ ?_⟩ | refine ⟨fun _ _ => trivial, hK _ _ ?_⟩
              clear hK K
              refine wpAny_ready (rs := [31, 35]) (by kernel_rfl) (by simp) ?_
              refine AllReady.cons rfl (fun K hK => ?_) ?_
              ·go_simp
               refine (cQ.out _).mono ?_
               rintro e w31 ⟨v31, rfl, o31, b31⟩
               obtain ⟨p31, q31, rfl, -, -⟩ := owns_shape o31
               have hB31 := hB21.trans (b31.mono hB21.size)
               have g131 := cell_blk (i := 1) ((hB31.block _ hzb).trans hbx) rfl
               have gx31 := (Kept.of_below hB31 0).cell hxm.out
               have z31 : Sl w31 1 encT (.slice p31 1 q31) [Y] := sl_of_owns (l := [Y]) (fun _ _ => rfl) o31
               obtain ⟨yb, yo, yc, he31, -, -, hc31⟩ := z31.open (by simp)
               simp only [Value.slice.injEq] at he31
               obtain ⟨rfl, -, rfl⟩ := he31
               have gy31 := rangeAt_one (hc31 0 Y rfl)
               rw [Nat.zero_mul, Nat.add_zero] at gy31
               first | refine hK _ _ ?_ | refine ⟨trivial, hK _ _ ?_⟩ | refine ⟨fun _ _ => trivial, hK _ _ ?_⟩
               clear hK K
               refine tkA 32 (some 73) ?_ rfl (Or.inl ⟨by rfl, ?_⟩) ?_; rotate_left
               ·intro w; go_simp <;> with_reducible rfl
               simp only [Act.put, aS, aZ, aC]
               refine wpAny_ready (rs := [33, 35]) (by kernel_rfl) (by simp) ?_
               refine AllReady.cons rfl (fun K hK => ?_) ?_
               ·go_simp
                first | refine hK _ _ ?_ | refine ⟨trivial, hK _ _ ?_⟩ | refine ⟨fun _ _ => trivial, hK _ _ ?_⟩
                clear hK K
                refine wpAny_ready (rs := [35]) (by kernel_rfl) (by simp) ?_
                refine AllReady.cons rfl (fun K hK => ?_) AllReady.nil
                go_simp
                first | refine hK _ _ ?_ | refine ⟨trivial, hK _ _ ?_⟩ | refine ⟨fun _ _ => trivial, hK _ _ ?_⟩
                clear hK K
                refine tkA 37 (some 78) ?_ rfl (Or.inl ⟨by rfl, ?_⟩) ?_; rotate_left
                ·intro w; go_simp <;> with_reducible rfl
                simp only [Act.put, aS, aZ, aC]
                refine wpAny_ready (rs := [38]) (by kernel_rfl) (by simp) ?_
                refine AllReady.cons rfl (fun K hK => ?_) AllReady.nil
                go_simp
                first | refine hK _ _ ?_ | refine ⟨trivial, hK _ _ ?_⟩ | refine ⟨fun _ _ => trivial, hK _ _ ?_⟩
                clear hK K
                refine tkA 39 (some 80) ?_ rfl (Or.inl ⟨by rfl, ?_⟩) ?_; rotate_left
                ·intro w; go_simp <;> with_reducible rfl
                simp only [Act.put, aS, aZ, aC]
                try simp only [hTe]
                try simp only [hyT]
                refine tkA 40 (some 81) ?_ rfl (Or.inl ⟨by rfl, ?_⟩) ?_; rotate_left
                ·intro w; go_simp <;> with_reducible rfl
                simp only [Act.put, aS, aZ, aC]
                refine wpAny_done (by kernel_rfl) ?_ _
                go_wp2_with (fail)
                go_meet
                case rel => exact ⟨by simp only [hng.out], hB31⟩
               refine AllReady.cons rfl (fun K hK => ?_) AllReady.nil
               go_simp
               first | refine hK _ _ ?_ | refine ⟨trivial, hK _ _ ?_⟩ | refine ⟨fun _ _ => trivial, hK _ _ ?_⟩
               clear hK K
               refine tkA 37 (some 78) ?_ rfl (Or.inl ⟨by rfl, ?_⟩) ?_; rotate_left
               ·intro w; go_simp <;> with_reducible rfl
               simp only [Act.put, aS, aZ, aC]
               refine wpAny_ready (rs := [33, 38]) (by kernel_rfl) (by simp) ?_
               refine AllReady.cons rfl (fun K hK => ?_) ?_
               ·go_simp
                first | refine hK _ _ ?_ | refine ⟨trivial, hK _ _ ?_⟩ | refine ⟨fun _ _ => trivial, hK _ _ ?_⟩
                clear hK K
                refine wpAny_ready (rs := [38]) (by kernel_rfl) (by simp) ?_
                refine AllReady.cons rfl (fun K hK => ?_) AllReady.nil
                go_simp
                first | refine hK _ _ ?_ | refine ⟨trivial, hK _ _ ?_⟩ | refine ⟨fun _ _ => trivial, hK _ _ ?_⟩
                clear hK K
                refine tkA 39 (some 80) ?_ rfl (Or.inl ⟨by rfl, ?_⟩) ?_; rotate_left
                ·intro w; go_simp <;> with_reducible rfl
                simp only [Act.put, aS, aZ, aC]
                try simp only [hTe]
                try simp only [hyT]
                refine tkA 40 (some 81) ?_ rfl (Or.inl ⟨by rfl, ?_⟩) ?_; rotate_left
                ·intro w; go_simp <;> with_reducible rfl
                simp only [Act.put, aS, aZ, aC]
                refine wpAny_done (by kernel_rfl) ?_ _
                go_wp2_with (fail)
                go_meet
                case rel => exact ⟨by simp only [hng.out], hB31⟩
               refine AllReady.cons rfl (fun K hK => ?_) AllReady.nil
               go_simp
               first | refine hK _ _ ?_ | refine ⟨trivial, hK _ _ ?_⟩ | refine ⟨fun _ _ => trivial, hK _ _ ?_⟩
               clear hK K
               refine wpAny_ready (rs := [33]) (by kernel_rfl) (by simp) ?_
               refine AllReady.cons rfl (fun K hK => ?_) AllReady.nil
               go_simp
               first | refine hK _ _ ?_ | refine ⟨trivial, hK _ _ ?_⟩ | refine ⟨fun _ _ => trivial, hK _ _ ?_⟩
               clear hK K
               refine tkA 39 (some 80) ?_ rfl (Or.inl ⟨by rfl, ?_⟩) ?_; rotate_left
               ·intro w; go_simp <;> with_reducible rfl
               simp only [Act.put, aS, aZ, aC]
               try simp only [hTe]
               try simp only [hyT]
               refine tkA 40 (some 81) ?_ rfl (Or.inl ⟨by rfl, ?_⟩) ?_; rotate_left
               ·intro w; go_simp <;> with_reducible rfl
               simp only [Act.put, aS, aZ, aC]
               refine wpAny_done (by kernel_rfl) ?_ _
               go_wp2_with (fail)
               go_meet
               case rel => exact ⟨by simp only [hng.out], hB31⟩
              refine AllReady.cons rfl (fun K hK => ?_) AllReady.nil
              go_simp
              first | refine hK _ _ ?_ | refine ⟨trivial, hK _ _ ?_⟩ | refine ⟨fun _ _ => trivial, hK _ _ ?_⟩
              clear hK K
              refine tkA 37 (some 78) ?_ rfl (Or.inl ⟨by rfl, ?_⟩) ?_; rotate_left
              ·intro w; go_simp <;> with_reducible rfl
              simp only [Act.put, aS, aZ, aC]
              refine wpAny_ready (rs := [31, 38]) (by kernel_rfl) (by simp) ?_
              refine AllReady.cons rfl (fun K hK => ?_) ?_
              ·go_simp
               refine (cQ.out _).mono ?_
               rintro e w31 ⟨v31, rfl, o31, b31⟩
               obtain ⟨p31, q31, rfl, -, -⟩ := owns_shape o31
               have hB31 := hB21.trans (b31.mono hB21.size)
               have g131 := cell_blk (i := 1) ((hB31.block _ hzb).trans hbx) rfl
               have gx31 := (Kept.of_below hB31 0).cell hxm.out
               have z31 : Sl w31 1 encT (.slice p31 1 q31) [Y] := sl_of_owns (l := [Y]) (fun _ _ => rfl) o31
               obtain ⟨yb, yo, yc, he31, -, -, hc31⟩ := z31.open (by simp)
               simp only [Value.slice.injEq] at he31
               obtain ⟨rfl, -, rfl⟩ := he31
               have gy31 := rangeAt_one (hc31 0 Y rfl)
               rw [Nat.zero_mul, Nat.add_zero] at gy31
               first | refine hK _ _ ?_ | refine ⟨trivial, hK _ _ ?_⟩ | refine ⟨fun _ _ => trivial, hK _ _ ?_⟩
               clear hK K
               refine tkA 32 (some 73) ?_ rfl (Or.inl ⟨by rfl, ?_⟩) ?_; rotate_left
               ·intro w; go_simp <;> with_reducible rfl
               simp only [Act.put, aS, aZ, aC]
               refine wpAny_ready (rs := [33, 38]) (by kernel_rfl) (by simp) ?_
               refine AllReady.cons rfl (fun K hK => ?_) ?_
               ·go_simp
                first | refine hK _ _ ?_ | refine ⟨trivial, hK _ _ ?_⟩ | refine ⟨fun _ _ => trivial, hK _ _ ?_⟩
                clear hK K
                refine wpAny_ready (rs := [38]) (by kernel_rfl) (by simp) ?_
                refine AllReady.cons rfl (fun K hK => ?_) AllReady.nil
                go_simp
                first | refine hK _ _ ?_ | refine ⟨trivial, hK _ _ ?_⟩ | refine ⟨fun _ _ => trivial, hK _ _ ?_⟩
                clear hK K
                refine tkA 39 (some 80) ?_ rfl (Or.inl ⟨by rfl, ?_⟩) ?_; rotate_left
                ·intro w; go_simp <;> with_reducible rfl
                simp only [Act.put, aS, aZ, aC]
                try simp only [hTe]
                try simp only [hyT]
                refine tkA 40 (some 81) ?_ rfl (Or.inl ⟨by rfl, ?_⟩) ?_; rotate_left
                ·intro w; go_simp <;> with_reducible rfl
                simp only [Act.put, aS, aZ, aC]
                refine wpAny_done (by kernel_rfl) ?_ _
                go_wp2_with (fail)
                go_meet
                case rel => exact ⟨by simp only [hng.out], hB31⟩
               refine AllReady.cons rfl (fun K hK => ?_) AllReady.nil
               go_simp
               first | refine hK _ _ ?_ | refine ⟨trivial, hK _ _ ?_⟩ | refine ⟨fun _ _ => trivial, hK _ _ ?_⟩
               clear hK K
               refine wpAny_ready (rs := [33]) (by kernel_rfl) (by simp) ?_
               refine AllReady.cons rfl (fun K hK => ?_) AllReady.nil
               go_simp
               first | refine hK _ _ ?_ | refine ⟨trivial, hK _ _ ?_⟩ | refine ⟨fun _ _ => trivial, hK _ _ ?_⟩
               clear hK K
               refine tkA 39 (some 80) ?_ rfl (Or.inl ⟨by rfl, ?_⟩) ?_; rotate_left
               ·intro w; go_simp <;> with_reducible rfl
               simp only [Act.put, aS, aZ, aC]
               try simp only [hTe]
               try simp only [hyT]
               refine tkA 40 (some 81) ?_ rfl (Or.inl ⟨by rfl, ?_⟩) ?_; rotate_left
               ·intro w; go_simp <;> with_reducible rfl
               simp only [Act.put, aS, aZ, aC]
               refine wpAny_done (by kernel_rfl) ?_ _
               go_wp2_with (fail)
               go_meet
               case rel => exact ⟨by simp only [hng.out], hB31⟩
              refine AllReady.cons rfl (fun K hK => ?_) AllReady.nil
              go_simp
              first | refine hK _ _ ?_ | refine ⟨trivial, hK _ _ ?_⟩ | refine ⟨fun _ _ => trivial, hK _ _ ?_⟩
              clear hK K
              refine wpAny_ready (rs := [31]) (by kernel_rfl) (by simp) ?_
              refine AllReady.cons rfl (fun K hK => ?_) AllReady.nil
              go_simp
              refine (cQ.out _).mono ?_
              rintro e w31 ⟨v31, rfl, o31, b31⟩
              obtain ⟨p31, q31, rfl, -, -⟩ := owns_shape o31
              have hB31 := hB21.trans (b31.mono hB21.size)
              have g131 := cell_blk (i := 1) ((hB31.block _ hzb).trans hbx) rfl
              have gx31 := (Kept.of_below hB31 0).cell hxm.out
              have z31 : Sl w31 1 encT (.slice p31 1 q31) [Y] := sl_of_owns (l := [Y]) (fun _ _ => rfl) o31
              obtain ⟨yb, yo, yc, he31, -, -, hc31⟩ := z31.open (by simp)
              simp only [Value.slice.injEq] at he31
              obtain ⟨rfl, -, rfl⟩ := he31
              have gy31 := rangeAt_one (hc31 0 Y rfl)
              rw [Nat.zero_mul, Nat.add_zero] at gy31
              first | refine hK _ _ ?_ | refine ⟨trivial, hK _ _ ?_⟩ | refine ⟨fun _ _ => trivial, hK _ _ ?_⟩
              clear hK K
              refine tkA 32 (some 73) ?_ rfl (Or.inl ⟨by rfl, ?_⟩) ?_; rotate_left
              ·intro w; go_simp <;> with_reducible rfl
              simp only [Act.put, aS, aZ, aC]
              refine wpAny_ready (rs := [33]) (by kernel_rfl) (by simp) ?_
              refine AllReady.cons rfl (fun K hK => ?_) AllReady.nil
              go_simp
              first | refine hK _ _ ?_ | refine ⟨trivial, hK _ _ ?_⟩ | refine ⟨fun _ _ => trivial, hK _ _ ?_⟩
              clear hK K
              refine tkA 39 (some 80) ?_ rfl (Or.inl ⟨by rfl, ?_⟩) ?_; rotate_left
              ·intro w; go_simp <;> with_reducible rfl
              simp only [Act.put, aS, aZ, aC]
              try simp only [hTe]
              try simp only [hyT]
              refine tkA 40 (some 81) ?_ rfl (Or.inl ⟨by rfl, ?_⟩) ?_; rotate_left
              ·intro w; go_simp <;> with_reducible rfl
              simp only [Act.put, aS, aZ, aC]
              refine wpAny_done (by kernel_rfl) ?_ _
              go_wp2_with (fail)
              go_meet
              case rel => exact ⟨by simp only [hng.out], hB31⟩
             refine AllReady.cons rfl (fun K hK => ?_) AllReady.nil
             go_simp
             first | refine hK _ _ ?_ | refine ⟨trivial, hK _ _ ?_⟩ | refine ⟨fun _ _ => trivial, hK _ _ ?_⟩
             clear hK K
             refine tkA 37 (some 78) ?_ rfl (Or.inl ⟨by rfl, ?_⟩) ?_; rotate_left
             ·intro w; go_simp <;> with_reducible rfl
             simp only [Act.put, aS, aZ, aC]
             refine wpAny_ready (rs := [30, 38]) (by kernel_rfl) (by simp) ?_
             refine AllReady.cons rfl (fun K hK => ?_) ?_
             ·go_simp
              first | refine hK _ _ ?_ | refine ⟨trivial, hK _ _ ?_⟩ | refine ⟨fun _ _ => trivial, hK _ _ ?_⟩
              clear hK K
              refine wpAny_ready (rs := [31, 38]) (by kernel_rfl) (by simp) ?_
              refine AllReady.cons rfl (fun K hK => ?_) ?_
              ·go_simp
               refine (cQ.out _).mono ?_
               rintro e w31 ⟨v31, rfl, o31, b31⟩
               obtain ⟨p31, q31, rfl, -, -⟩ := owns_shape o31
               have hB31 := hB21.trans (b31.mono hB21.size)
               have g131 := cell_blk (i := 1) ((hB31.block _ hzb).trans hbx) rfl
               have gx31 := (Kept.of_below hB31 0).cell hxm.out
               have z31 : Sl w31 1 encT (.slice p31 1 q31) [Y] := sl_of_owns (l := [Y]) (fun _ _ => rfl) o31
               obtain ⟨yb, yo, yc, he31, -, -, hc31⟩ := z31.open (by simp)
               simp only [Value.slice.injEq] at he31
               obtain ⟨rfl, -, rfl⟩ := he31
               have gy31 := rangeAt_one (hc31 0 Y rfl)
               rw [Nat.zero_mul, Nat.add_zero] at gy31
               first | refine hK _ _ ?_ | refine ⟨trivial, hK _ _ ?_⟩ | refine ⟨fun _ _ => trivial, hK _ _ ?_⟩
               clear hK K
               refine tkA 32 (some 73) ?_ rfl (Or.inl ⟨by rfl, ?_⟩) ?_; rotate_left
               ·intro w; go_simp <;> with_reducible rfl
               simp only [Act.put, aS, aZ, aC]
               refine wpAny_ready (rs := [33, 38]) (by kernel_rfl) (by simp) ?_
               refine AllReady.cons rfl (fun K hK => ?_) ?_
               ·go_simp
                first | refine hK _ _ ?_ | refine ⟨trivial, hK _ _ ?_⟩ | refine ⟨fun _ _ => trivial, hK _ _ ?_⟩
                clear hK K
                refine wpAny_ready (rs := [38]) (by kernel_rfl) (by simp) ?_
                refine AllReady.cons rfl (fun K hK => ?_) AllReady.nil
                go_simp
                first | refine hK _ _ ?_ | refine ⟨trivial, hK _ _ ?_⟩ | refine ⟨fun _ _ => trivial, hK _ _ ?_⟩
                clear hK K
                refine tkA 39 (some 80) ?_ rfl (Or.inl ⟨by rfl, ?_⟩) ?_; rotate_left
                ·intro w; go_simp <;> with_reducible rfl
                simp only [Act.put, aS, aZ, aC]
                try simp only [hTe]
                try simp only [hyT]
                refine tkA 40 (some 81) ?_ rfl (Or.inl ⟨by rfl, ?_⟩) ?_; rotate_left
                ·intro w; go_simp <;> with_reducible rfl
                simp only [Act.put, aS, aZ, aC]
                refine wpAny_done (by kernel_rfl) ?_ _
                go_wp2_with (fail)
                go_meet
                case rel => exact ⟨by simp only [hng.out], hB31⟩
               refine AllReady.cons rfl (fun K hK => ?_) AllReady.nil
               go_simp
               first | refine hK _ _ ?_ | refine ⟨trivial, hK _ _ ?_⟩ | refine ⟨fun _ _ => trivial, hK _ _ ?_⟩
               clear hK K
               refine wpAny_ready (rs := [33]) (by kernel_rfl) (by simp) ?_
               refine AllReady.cons rfl (fun K hK => ?_) AllReady.nil
               go_simp
               first | refine hK _ _ ?_ | refine ⟨trivial, hK _ _ ?_⟩ | refine ⟨fun _ _ => trivial, hK _ _ ?_⟩
               clear hK K
               refine tkA 39 (some 80) ?_ rfl (Or.inl ⟨by rfl, ?_⟩) ?_; rotate_left
               ·intro w; go_simp <;> with_reducible rfl
               simp only [Act.put, aS, aZ, aC]
               try simp only [hTe]
               try simp only [hyT]
               refine tkA 40 (some 81) ?_ rfl (Or.inl ⟨by rfl, ?_⟩) ?_; rotate_left
               ·intro w; go_simp <;> with_reducible rfl
               simp only [Act.put, aS, aZ, aC]
               refine wpAny_done (by kernel_rfl) ?_ _
               go_wp2_with (fail)
               go_meet
               case rel => exact ⟨by simp only [hng.out], hB31⟩
              refine AllReady.cons rfl (fun K hK => ?_) AllReady.nil
              go_simp
              first | refine hK _ _ ?_ | refine ⟨trivial, hK _ _ ?_⟩ | refine ⟨fun _ _ => trivial, hK _ _ ?_⟩
              clear hK K
              refine wpAny_ready (rs := [31]) (by kernel_rfl) (by simp) ?_
              refine AllReady.cons rfl (fun K hK => ?_) AllReady.nil
              go_simp
              refine (cQ.out _).mono ?_
              rintro e w31 ⟨v31, rfl, o31, b31⟩
              obtain ⟨p31, q31, rfl, -, -⟩ := owns_shape o31
              have hB31 := hB21.trans (b31.mono hB21.size)
              have g131 := cell_blk (i := 1) ((hB31.block _ hzb).trans hbx) rfl
              have gx31 := (Kept.of_below hB31 0).cell hxm.out
              have z31 : Sl w31 1 encT (.slice p31 1 q31) [Y] := sl_of_owns (l := [Y]) (fun _ _ => rfl) o31
              obtain ⟨yb, yo, yc, he31, -, -, hc31⟩ := z31.open (by simp)
              simp only [Value.slice.injEq] at he31
              obtain ⟨rfl, -, rfl⟩ := he31
              have gy31 := rangeAt_one (hc31 0 Y rfl)
              rw [Nat.zero_mul, Nat.add_zero] at gy31
              first | refine hK _ _ ?_ | refine ⟨trivial, hK _ _ ?_⟩ | refine ⟨fun _ _ => trivial, hK _ _ ?_⟩
              clear hK K
              refine tkA 32 (some 73) ?_ rfl (Or.inl ⟨by rfl, ?_⟩) ?_; rotate_left
              ·intro w; go_simp <;> with_reducible rfl
              simp only [Act.put, aS, aZ, aC]
              refine wpAny_ready (rs := [33]) (by kernel_rfl) (by simp) ?_
              refine AllReady.cons rfl (fun K hK => ?_) AllReady.nil
              go_simp
              first | refine hK _ _ ?_ | refine ⟨trivial, hK _ _ ?_⟩ | refine ⟨fun _ _ => trivial, hK _ _ ?_⟩
              clear hK K
              refine tkA 39 (some 80) ?_ rfl (Or.inl ⟨by rfl, ?_⟩) ?_; rotate_left
              ·intro w; go_simp <;> with_reducible rfl
              simp only [Act.put, aS, aZ, aC]
              try simp only [hTe]
              try simp only [hyT]
              refine tkA 40 (some 81) ?_ rfl (Or.inl ⟨by rfl, ?_⟩) ?_; rotate_left
              ·intro w; go_simp <;> with_reducible rfl
              simp only [Act.put, aS, aZ, aC]
              refine wpAny_done (by kernel_rfl) ?_ _
              go_wp2_with (fail)
              go_meet
              case rel => exact ⟨by simp only [hng.out], hB31⟩
             refine AllReady.cons rfl (fun K hK => ?_) AllReady.nil
             go_simp
             first | refine hK _ _ ?_ | refine ⟨trivial, hK _ _ ?_⟩ | refine ⟨fun _ _ => trivial, hK _ _ ?_⟩
             clear hK K
             refine wpAny_ready (rs := [30]) (by kernel_rfl) (by simp) ?_
             refine AllReady.cons rfl (fun K hK => ?_) AllReady.nil
             go_simp
             first | refine hK _ _ ?_ | refine ⟨trivial, hK _ _ ?_⟩ | refine ⟨fun _ _ => trivial, hK _ _ ?_⟩
             clear hK K
             refine wpAny_ready (rs := [31]) (by kernel_rfl) (by simp) ?_
             refine AllReady.cons rfl (fun K hK => ?_) AllReady.nil
             go_simp
             refine (cQ.out _).mono ?_
             rintro e w31 ⟨v31, rfl, o31, b31⟩
             obtain ⟨p31, q31, rfl, -, -⟩ := owns_shape o31
             have hB31 := hB21.trans (b31.mono hB21.size)
             have g131 := cell_blk (i := 1) ((hB31.block _ hzb).trans hbx) rfl
             have gx31 := (Kept.of_below hB31 0).cell hxm.out
             have z31 : Sl w31 1 encT (.slice p31 1 q31) [Y] := sl_of_owns (l := [Y]) (fun _ _ => rfl) o31
             obtain ⟨yb, yo, yc, he31, -, -, hc31⟩ := z31.open (by simp)
             simp only [Value.slice.injEq] at he31
             obtain ⟨rfl, -, rfl⟩ := he31
             have gy31 := rangeAt_one (hc31 0 Y rfl)
             rw [Nat.zero_mul, Nat.add_zero] at gy31
             first | refine hK _ _ ?_ | refine ⟨trivial, hK _ _ ?_⟩ | refine ⟨fun _ _ => trivial, hK _ _ ?_⟩
             clear hK K
             refine tkA 32 (some 73) ?_ rfl (Or.inl ⟨by rfl, ?_⟩) ?_; rotate_left
             ·intro w; go_simp <;> with_reducible rfl
             simp only [Act.put, aS, aZ, aC]
             refine wpAny_ready (rs := [33]) (by kernel_rfl) (by simp) ?_
             refine AllReady.cons rfl (fun K hK => ?_) AllReady.nil
             go_simp
             first | refine hK _ _ ?_ | refine ⟨trivial, hK _ _ ?_⟩ | refine ⟨fun _ _ => trivial, hK _ _ ?_⟩
             clear hK K
             refine tkA 39 (some 80) ?_ rfl (Or.inl ⟨by rfl, ?_⟩) ?_; rotate_left
             ·intro w; go_simp <;> with_reducible rfl
             simp only [Act.put, aS, aZ, aC]
             try simp only [hTe]
             try simp only [hyT]
             refine tkA 40 (some 81) ?_ rfl (Or.inl ⟨by rfl, ?_⟩) ?_; rotate_left
             ·intro w; go_simp <;> with_reducible rfl
             simp only [Act.put, aS, aZ, aC]
             refine wpAny_done (by kernel_rfl) ?_ _
             go_wp2_with (fail)
             go_meet
             case rel => exact ⟨by simp only [hng.out], hB31⟩
            refine AllReady.cons rfl (fun K hK => ?_) AllReady.nil
            go_simp
            first | refine hK _ _ ?_ | refine ⟨trivial, hK _ _ ?_⟩ | refine ⟨fun _ _ => trivial, hK _ _ ?_⟩
            clear hK K
            refine tkA 37 (some 78) ?_ rfl (Or.inl ⟨by rfl, ?_⟩) ?_; rotate_left
            ·intro w; go_simp <;> with_reducible rfl
            simp only [Act.put, aS, aZ, aC]
            refine wpAny_ready (rs := [27, 38]) (by kernel_rfl) (by simp) ?_
            refine AllReady.cons rfl (fun K hK => ?_) ?_
            ·go_simp
             first | refine hK _ _ ?_ | refine ⟨trivial, hK _ _ ?_⟩ | refine ⟨fun _ _ => trivial, hK _ _ ?_⟩
             clear hK K
             refine tkA 29 (some 70) ?_ rfl (Or.inl ⟨by rfl, ?_⟩) ?_; rotate_left
             ·intro w; go_simp <;> with_reducible rfl
             simp only [Act.put, aS, aZ, aC]
             refine wpAny_ready (rs := [30, 38]) (by kernel_rfl) (by simp) ?_
             refine AllReady.cons rfl (fun K hK => ?_) ?_
             ·go_simp
              first | refine hK _ _ ?_ | refine ⟨trivial, hK _ _ ?_⟩ | refine ⟨fun _ _ => trivial, hK _ _ ?_⟩
              clear hK K
              refine wpAny_ready (rs := [31, 38]) (by kernel_rfl) (by simp) ?_
              refine AllReady.cons rfl (fun K hK => ?_) ?_
              ·go_simp
               refine (cQ.out _).mono ?_
               rintro e w31 ⟨v31, rfl, o31, b31⟩
               obtain ⟨p31, q31, rfl, -, -⟩ := owns_shape o31
               have hB31 := hB21.trans (b31.mono hB21.size)
               have g131 := cell_blk (i := 1) ((hB31.block _ hzb).trans hbx) rfl
               have gx31 := (Kept.of_below hB31 0).cell hxm.out
               have z31 : Sl w31 1 encT (.slice p31 1 q31) [Y] := sl_of_owns (l := [Y]) (fun _ _ => rfl) o31
               obtain ⟨yb, yo, yc, he31, -, -, hc31⟩ := z31.open (by simp)
               simp only [Value.slice.injEq] at he31
               obtain ⟨rfl, -, rfl⟩ := he31
               have gy31 := rangeAt_one (hc31 0 Y rfl)
               rw [Nat.zero_mul, Nat.add_zero] at gy31
               first | refine hK _ _ ?_ | refine ⟨trivial, hK _ _ ?_⟩ | refine ⟨fun _ _ => trivial, hK _ _ ?_⟩
               clear hK K
               refine tkA 32 (some 73) ?_ rfl (Or.inl ⟨by rfl, ?_⟩) ?_; rotate_left
               ·intro w; go_simp <;> with_reducible rfl
               simp only [Act.put, aS, aZ, aC]
               refine wpAny_ready (rs := [33, 38]) (by kernel_rfl) (by simp) ?_
               refine AllReady.cons rfl (fun K hK => ?_) ?_
               ·go_simp
                first | refine hK _ _ ?_ | refine ⟨trivial, hK _ _ ?_⟩ | refine ⟨fun _ _ => trivial, hK _ _ ?_⟩
                clear hK K
                refine wpAny_ready (rs := [38]) (by kernel_rfl) (by simp) ?_
                refine AllReady.cons rfl (fun K hK => ?_) AllReady.nil
                go_simp
                first | refine hK _ _ ?_ | refine ⟨trivial, hK _ _ ?_⟩ | refine ⟨fun _ _ => trivial, hK _ _ ?_⟩
                clear hK K
                refine tkA 39 (some 80) ?_ rfl (Or.inl ⟨by rfl, ?_⟩) ?_; rotate_left
                ·intro w; go_simp <;> with_reducible rfl
                simp only [Act.put, aS, aZ, aC]
                try simp only [hTe]
                try simp only [hyT]
                refine tkA 40 (some 81) ?_ rfl (Or.inl ⟨by rfl, ?_⟩) ?_; rotate_left
                ·intro w; go_simp <;> with_reducible rfl
                simp only [Act.put, aS, aZ, aC]
                refine wpAny_done (by kernel_rfl) ?_ _
                go_wp2_with (fail)
                go_meet
                case rel => exact ⟨by simp only [hng.out], hB31⟩
               refine AllReady.cons rfl (fun K hK => ?_) AllReady.nil
               go_simp
               first | refine hK _ _ ?_ | refine ⟨trivial, hK _ _ ?_⟩ | refine ⟨fun _ _ => trivial, hK _ _ ?_⟩
               clear hK K
               refine wpAny_ready (rs := [33]) (by kernel_rfl) (by simp) ?_
               refine AllReady.cons rfl (fun K hK => ?_) AllReady.nil
               go_simp
               first | refine hK _ _ ?_ | refine ⟨trivial, hK _ _ ?_⟩ | refine ⟨fun _ _ => trivial, hK _ _ ?_⟩
               clear hK K
               refine tkA 39 (some 80) ?_ rfl (Or.inl ⟨by rfl, ?_⟩) ?_; rotate_left
               ·intro w; go_simp <;> with_reducible rfl
               simp only [Act.put, aS, aZ, aC]
               try simp only [hTe]
               try simp only [hyT]
               refine tkA 40 (some 81) ?_ rfl (Or.inl ⟨by rfl, ?_⟩) ?_; rotate_left
               ·intro w; go_simp <;> with_reducible rfl
               simp only [Act.put, aS, aZ, aC]
               refine wpAny_done (by kernel_rfl) ?_ _
               go_wp2_with (fail)
               go_meet
               case rel => exact ⟨by simp only [hng.out], hB31⟩
              refine AllReady.cons rfl (fun K hK => ?_) AllReady.nil
              go_simp
              first | refine hK _ _ ?_ | refine ⟨trivial, hK _ _ ?_⟩ | refine ⟨fun _ _ => trivial, hK _ _ ?_⟩
              clear hK K
              refine wpAny_ready (rs := [31]) (by kernel_rfl) (by simp) ?_
              refine AllReady.cons rfl (fun K hK => ?_) AllReady.nil
              go_simp
              refine (cQ.out _).mono ?_
              rintro e w31 ⟨v31, rfl, o31, b31⟩
              obtain ⟨p31, q31, rfl, -, -⟩ := owns_shape o31
              have hB31 := hB21.trans (b31.mono hB21.size)
              have g131 := cell_blk (i := 1) ((hB31.block _ hzb).trans hbx) rfl
              have gx31 := (Kept.of_below hB31 0).cell hxm.out
              have z31 : Sl w31 1 encT (.slice p31 1 q31) [Y] := sl_of_owns (l := [Y]) (fun _ _ => rfl) o31
              obtain ⟨yb, yo, yc, he31, -, -, hc31⟩ := z31.open (by simp)
              simp only [Value.slice.injEq] at he31
              obtain ⟨rfl, -, rfl⟩ := he31
              have gy31 := rangeAt_one (hc31 0 Y rfl)
              rw [Nat.zero_mul, Nat.add_zero] at gy31
              first | refine hK _ _ ?_ | refine ⟨trivial, hK _ _ ?_⟩ | refine ⟨fun _ _ => trivial, hK _ _ ?_⟩
              clear hK K
              refine tkA 32 (some 73) ?_ rfl (Or.inl ⟨by rfl, ?_⟩) ?_; rotate_left
              ·intro w; go_simp <;> with_reducible rfl
              simp only [Act.put, aS, aZ, aC]
              refine wpAny_ready (rs := [33]) (by kernel_rfl) (by simp) ?_
              refine AllReady.cons rfl (fun K hK => ?_) AllReady.nil
              go_simp
              first | refine hK _ _ ?_ | refine ⟨trivial, hK _ _ ?_⟩ | refine ⟨fun _ _ => trivial, hK _ _ ?_⟩
              clear hK K
              refine tkA 39 (some 80) ?_ rfl (Or.inl ⟨by rfl, ?_⟩) ?_; rotate_left
              ·intro w; go_simp <;> with_reducible rfl
              simp only [Act.put, aS, aZ, aC]
              try simp only [hTe]
              try simp only [hyT]
              refine tkA 40 (some 81) ?_ rfl (Or.inl ⟨by rfl, ?_⟩) ?_; rotate_left
              ·intro w; go_simp <;> with_reducible rfl
              simp only [Act.put, aS, aZ, aC]
              refine wpAny_done (by kernel_rfl) ?_ _
              go_wp2_with (fail)
              go_meet
              case rel => exact ⟨by simp only [hng.out], hB31⟩
             refine AllReady.cons rfl (fun K hK => ?_) AllReady.nil
             go_simp
             first | refine hK _ _ ?_ | refine ⟨trivial, hK _ _ ?_⟩ | refine ⟨fun _ _ => trivial, hK _ _ ?_⟩
             clear hK K
             refine wpAny_ready (rs := [30]) (by kernel_rfl) (by simp) ?_
             refine AllReady.cons rfl (fun K hK => ?_) AllReady.nil
             go_simp
             first | refine hK _ _ ?_ | refine ⟨trivial, hK _ _ ?_⟩ | refine ⟨fun _ _ => trivial, hK _ _ ?_⟩
             clear hK K
             refine wpAny_ready (rs := [31]) (by kernel_rfl) (by simp) ?_
             refine AllReady.cons rfl (fun K hK => ?_) AllReady.nil
             go_simp
             refine (cQ.out _).mono ?_
             rintro e w31 ⟨v31, rfl, o31, b31⟩
             obtain ⟨p31, q31, rfl, -, -⟩ := owns_shape o31
             have hB31 := hB21.trans (b31.mono hB21.size)
             have g131 := cell_blk (i := 1) ((hB31.block _ hzb).trans hbx) rfl
             have gx31 := (Kept.of_below hB31 0).cell hxm.out
             have z31 : Sl w31 1 encT (.slice p31 1 q31) [Y] := sl_of_owns (l := [Y]) (fun _ _ => rfl) o31
             obtain ⟨yb, yo, yc, he31, -, -, hc31⟩ := z31.open (by simp)
             simp only [Value.slice.injEq] at he31
             obtain ⟨rfl, -, rfl⟩ := he31
             have gy31 := rangeAt_one (hc31 0 Y rfl)
             rw [Nat.zero_mul, Nat.add_zero] at gy31
             first | refine hK _ _ ?_ | refine ⟨trivial, hK _ _ ?_⟩ | refine ⟨fun _ _ => trivial, hK _ _ ?_⟩
             clear hK K
             refine tkA 32 (some 73) ?_ rfl (Or.inl ⟨by rfl, ?_⟩) ?_; rotate_left
             ·intro w; go_simp <;> with_reducible rfl
             simp only [Act.put, aS, aZ, aC]
             refine wpAny_ready (rs := [33]) (by kernel_rfl) (by simp) ?_
             refine AllReady.cons rfl (fun K hK => ?_) AllReady.nil
             go_simp
             first | refine hK _ _ ?_ | refine ⟨trivial, hK _ _ ?_⟩ | refine ⟨fun _ _ => trivial, hK _ _ ?_⟩
             clear hK K
             refine tkA 39 (some 80) ?_ rfl (Or.inl ⟨by rfl, ?_⟩) ?_; rotate_left
             ·intro w; go_simp <;> with_reducible rfl
             simp only [Act.put, aS, aZ, aC]
             try simp only [hTe]
             try simp only [hyT]
             refine tkA 40 (some 81) ?_ rfl (Or.inl ⟨by rfl, ?_⟩) ?_; rotate_left
             ·intro w; go_simp <;> with_reducible rfl
             simp only [Act.put, aS, aZ, aC]
             refine wpAny_done (by kernel_rfl) ?_ _
             go_wp2_with (fail)
             go_meet
             case rel => exact ⟨by simp only [hng.out], hB31⟩
            refine AllReady.cons rfl (fun K hK => ?_) AllReady.nil
            go_simp
            first | refine hK _ _ ?_ | refine ⟨trivial, hK _ _ ?_⟩ | refine ⟨fun _ _ => trivial, hK _ _ ?_⟩
            clear hK K
            refine wpAny_ready (rs := [27]) (by kernel_rfl) (by simp) ?_
            refine AllReady.cons rfl (fun K hK => ?_) AllReady.nil
            go_simp
            first | refine hK _ _ ?_ | refine ⟨trivial, hK _ _ ?_⟩ | refine ⟨fun _ _ => trivial, hK _ _ ?_⟩
            clear hK K
            refine tkA 29 (some 70) ?_ rfl (Or.inl ⟨by rfl, ?_⟩) ?_; rotate_left
            ·intro w; go_simp <;> with_reducible rfl
            simp only [Act.put, aS, aZ, aC]
            refine wpAny_ready (rs := [30]) (by kernel_rfl) (by simp) ?_
            refine AllReady.cons rfl (fun K hK => ?_) AllReady.nil
            go_simp
            first | refine hK _ _ ?_ | refine ⟨trivial, hK _ _ ?_⟩ | refine ⟨fun _ _ => trivial, hK _ _ ?_⟩
            clear hK K
            refine wpAny_ready (rs := [31]) (by kernel_rfl) (by simp) ?_
            refine AllReady.cons rfl (fun K hK => ?_) AllReady.nil
            go_simp
            refine (cQ.out _).mono ?_
            rintro e w31 ⟨v31, rfl, o31, b31⟩
            obtain ⟨p31, q31, rfl, -, -⟩ := owns_shape o31
            have hB31 := hB21.trans (b31.mono hB21.size)
            have g131 := cell_blk (i := 1) ((hB31.block _ hzb).trans hbx) rfl
            have gx31 := (Kept.of_below hB31 0).cell hxm.out
            have z31 : Sl w31 1 encT (.slice p31 1 q31) [Y] := sl_of_owns (l := [Y]) (fun _ _ => rfl) o31
            obtain ⟨yb, yo, yc, he31, -, -, hc31⟩ := z31.open (by simp)
            simp only [Value.slice.injEq] at he31
            obtain ⟨rfl, -, rfl⟩ := he31
            have gy31 := rangeAt_one (hc31 0 Y rfl)
            rw [Nat.zero_mul, Nat.add_zero] at gy31
            first | refine hK _ _ ?_ | refine ⟨trivial, hK _ _ ?_⟩ | refine ⟨fun _ _ => trivial, hK _ _ ?_⟩
            clear hK K
            refine tkA 32 (some 73) ?_ rfl (Or.inl ⟨by rfl, ?_⟩) ?_; rotate_left
            ·intro w; go_simp <;> with_reducible rfl
            simp only [Act.put, aS, aZ, aC]
            refine wpAny_ready (rs := [33]) (by kernel_rfl) (by simp) ?_
            refine AllReady.cons rfl (fun K hK => ?_) AllReady.nil
            go_simp
            first | refine hK _ _ ?_ | refine ⟨trivial, hK _ _ ?_⟩ | refine ⟨fun _ _ => trivial, hK _ _ ?_⟩
            clear hK K
            refine tkA 39 (some 80) ?_ rfl (Or.inl ⟨by rfl, ?_⟩) ?_; rotate_left
            ·intro w; go_simp <;> with_reducible rfl
            simp only [Act.put, aS, aZ, aC]
            try simp only [hTe]
            try simp only [hyT]
            refine tkA 40 (some 81) ?_ rfl (Or.inl ⟨by rfl, ?_⟩) ?_; rotate_left
            ·intro w; go_simp <;> with_reducible rfl
            simp only [Act.put, aS, aZ, aC]
            refine wpAny_done (by kernel_rfl) ?_ _
            go_wp2_with (fail)
            go_meet
            case rel => exact ⟨by simp only [hng.out], hB31⟩
           ·have hng : decide (goodW T.data.toList) = false := decide_eq_false (fun h => hy1 (by rw [hgd h]; rfl))
            have hyl : ((ys.length : Int) != 1) = true := by
             rw [bne_iff_ne, ne_eq]; omega
            replace hng := hid hng
            clear hgd hgo hge hpl hy1
            refine wp_region_any (by kernel_rfl) ?_
            try (change wpAny _ _ _ _ _ _ _ (World.drew _))
            refine tkA 0 (some 41) ?_ rfl (Or.inl ⟨by rfl, ?_⟩) ?_; rotate_left
            ·intro w; go_simp <;> with_reducible rfl
            simp only [Act.put, aS, aZ, aC]
            refine tkA 2 (some 43) ?_ rfl (Or.inl ⟨by rfl, ?_⟩) ?_; rotate_left
            ·intro w; go_simp <;> with_reducible rfl
            simp only [Act.put, aS, aZ, aC]
            refine wpAny_ready (rs := [1]) (by kernel_rfl) (by simp) ?_
            refine AllReady.cons rfl (fun K hK => ?_) AllReady.nil
            go_simp
            first | refine hK _ _ ?_ | refine ⟨trivial, hK _ _ ?_⟩ | refine ⟨fun _ _ => trivial, hK _ _ ?_⟩
            clear hK K
            refine tkA 3 (some 44) ?_ rfl (Or.inl ⟨by rfl, ?_⟩) ?_; rotate_left
            ·intro w; go_simp <;> with_reducible rfl
            simp only [Act.put, aS, aZ, aC]
            refine wpAny_ready (rs := [4]) (by kernel_rfl) (by simp) ?_
            refine AllReady.cons rfl (fun K hK => ?_) AllReady.nil
            go_simp
            first | refine hK _ _ ?_ | refine ⟨trivial, hK _ _ ?_⟩ | refine ⟨fun _ _ => trivial, hK _ _ ?_⟩
            clear hK K
            refine tkA 5 (some 46) ?_ rfl (Or.inl ⟨by rfl, ?_⟩) ?_; rotate_left
            ·intro w; go_simp <;> with_reducible rfl
            simp only [Act.put, aS, aZ, aC]
            try simp only [hTe]
            try simp only [hyl]
            refine tkA 6 (some 47) ?_ rfl (Or.inl ⟨by rfl, ?_⟩) ?_; rotate_left
            ·intro w; go_simp <;> with_reducible rfl
            simp only [Act.put, aS, aZ, aC]
            refine tkA 7 (some 48) ?_ rfl (Or.inl ⟨by rfl, ?_⟩) ?_; rotate_left
            ·intro w; go_simp <;> with_reducible rfl
            simp only [Act.put, aS, aZ, aC]
            refine tkA 9 (some 50) ?_ rfl (Or.inl ⟨by rfl, ?_⟩) ?_; rotate_left
            ·intro w; go_simp <;> with_reducible rfl
            simp only [Act.put, aS, aZ, aC]
            refine wpAny_ready (rs := [8]) (by kernel_rfl) (by simp) ?_
            refine AllReady.cons rfl (fun K hK => ?_) AllReady.nil
            go_simp
            first | refine hK _ _ ?_ | refine ⟨trivial, hK _ _ ?_⟩ | refine ⟨fun _ _ => trivial, hK _ _ ?_⟩
            clear hK K
            refine tkA 10 (some 51) ?_ rfl (Or.inl ⟨by rfl, ?_⟩) ?_; rotate_left
            ·intro w; go_simp <;> with_reducible rfl
            simp only [Act.put, aS, aZ, aC]
            refine wpAny_ready (rs := [11]) (by kernel_rfl) (by simp) ?_
            refine AllReady.cons rfl (fun K hK => ?_) AllReady.nil
            go_simp
            first | refine hK _ _ ?_ | refine ⟨trivial, hK _ _ ?_⟩ | refine ⟨fun _ _ => trivial, hK _ _ ?_⟩
            clear hK K
            refine wpAny_ready (rs := [12]) (by kernel_rfl) (by simp) ?_
            refine AllReady.cons rfl (fun K hK => ?_) AllReady.nil
            go_simp
            refine (cP.out _).mono ?_
            rintro e w12 ⟨rfl, b12⟩
            have hB12 := hBd.trans (b12.mono hBd.size)
            have g112 := cell_blk (i := 1) ((hB12.block _ hzb).trans hbx) rfl
            have gx12 := (Kept.of_below hB12 0).cell hxm.out
            first | refine hK _ _ ?_ | refine ⟨trivial, hK _ _ ?_⟩ | refine ⟨fun _ _ => trivial, hK _ _ ?_⟩
            clear hK K
            refine tkA 13 (some 54) ?_ rfl (Or.inl ⟨by rfl, ?_⟩) ?_; rotate_left
            ·intro w; go_simp <;> with_reducible rfl
            simp only [Act.put, aS, aZ, aC]
            refine tkA 14 (some 55) ?_ rfl (Or.inl ⟨by rfl, ?_⟩) ?_; rotate_left
            ·intro w; go_simp <;> with_reducible rfl
            simp only [Act.put, aS, aZ, aC]
            refine tkA 15 (some 56) ?_ rfl (Or.inl ⟨by rfl, ?_⟩) ?_; rotate_left
            ·intro w; go_simp <;> with_reducible rfl
            simp only [Act.put, aS, aZ, aC]
            refine tkA 16 (some 57) ?_ rfl (Or.inl ⟨by rfl, ?_⟩) ?_; rotate_left
            ·intro w; go_simp <;> with_reducible rfl
            simp only [Act.put, aS, aZ, aC]
            refine tkA 18 (some 59) ?_ rfl (Or.inl ⟨by rfl, ?_⟩) ?_; rotate_left
            ·intro w; go_simp <;> with_reducible rfl
            simp only [Act.put, aS, aZ, aC]
            refine wpAny_ready (rs := [17]) (by kernel_rfl) (by simp) ?_
            refine AllReady.cons rfl (fun K hK => ?_) AllReady.nil
            go_simp
            first | refine hK _ _ ?_ | refine ⟨trivial, hK _ _ ?_⟩ | refine ⟨fun _ _ => trivial, hK _ _ ?_⟩
            clear hK K
            refine tkA 19 (some 60) ?_ rfl (Or.inl ⟨by rfl, ?_⟩) ?_; rotate_left
            ·intro w; go_simp <;> with_reducible rfl
            simp only [Act.put, aS, aZ, aC]
            refine wpAny_ready (rs := [20]) (by kernel_rfl) (by simp) ?_
            refine AllReady.cons rfl (fun K hK => ?_) AllReady.nil
            go_simp
            first | refine hK _ _ ?_ | refine ⟨trivial, hK _ _ ?_⟩ | refine ⟨fun _ _ => trivial, hK _ _ ?_⟩
            clear hK K
            refine wpAny_ready (rs := [21]) (by kernel_rfl) (by simp) ?_
            refine AllReady.cons rfl (fun K hK => ?_) AllReady.nil
            go_simp
            refine (cQ.out _).mono ?_
            rintro e w21 ⟨v21, rfl, o21, b21⟩
            obtain ⟨p21, q21, rfl, -, -⟩ := owns_shape o21
            have hB21 := hB12.trans (b21.mono hB12.size)
            have g121 := cell_blk (i := 1) ((hB21.block _ hzb).trans hbx) rfl
            have gx21 := (Kept.of_below hB21 0).cell hxm.out
            first | refine hK _ _ ?_ | refine ⟨trivial, hK _ _ ?_⟩ | refine ⟨fun _ _ => trivial, hK _ _ ?_⟩
            clear hK K
            refine tkA 22 (some 63) ?_ rfl (Or.inl ⟨by rfl, ?_⟩) ?_; rotate_left
            ·intro w; go_simp <;> with_reducible rfl
            simp only [Act.put, aS, aZ, aC]
            refine tkA 23 (some 64) ?_ rfl (Or.inl ⟨by rfl, ?_⟩) ?_; rotate_left
            ·intro w; go_simp <;> with_reducible rfl
            simp only [Act.put, aS, aZ, aC]
            try simp only [hTe]
            try simp only [hyl]
            refine tkA 24 (some 65) ?_ rfl (Or.inl ⟨by rfl, ?_⟩) ?_; rotate_left
            ·intro w; go_simp <;> with_reducible rfl
            simp only [Act.put, aS, aZ, aC]
            refine tkA 25 (some 66) ?_ rfl (Or.inl ⟨by rfl, ?_⟩) ?_; rotate_left
            ·intro w; go_simp <;> with_reducible rfl
            simp only [Act.put, aS, aZ, aC]
            refine tkA 26 (some 67) _ rfl (Or.inr ⟨by rfl, rfl⟩) ?_
            simp only [Act.put, aS, aZ, aC]
            refine tkA 27 (some 68) _ rfl (Or.inr ⟨by rfl, rfl⟩) ?_
            simp only [Act.put, aS, aZ, aC]
            refine tkA 28 (some 69) _ rfl (Or.inr ⟨by rfl, rfl⟩) ?_
            simp only [Act.put, aS, aZ, aC]
            refine tkA 29 (some 70) _ rfl (Or.inr ⟨by rfl, rfl⟩) ?_
            simp only [Act.put, aS, aZ, aC]
            refine tkA 30 (some 71) _ rfl (Or.inr ⟨by rfl, rfl⟩) ?_
            simp only [Act.put, aS, aZ, aC]
            refine tkA 34 (some 75) _ rfl (Or.inr ⟨by rfl, rfl⟩) ?_
            simp only [Act.put, aS, aZ, aC]
            refine tkA 35 (some 76) _ rfl (Or.inr ⟨by rfl, rfl⟩) ?_
            simp only [Act.put, aS, aZ, aC]
            refine tkA 36 (some 77) _ rfl (Or.inr ⟨by rfl, rfl⟩) ?_
            simp only [Act.put, aS, aZ, aC]
            refine tkA 37 (some 78) _ rfl (Or.inr ⟨by rfl, rfl⟩) ?_
            simp only [Act.put, aS, aZ, aC]
            refine tkA 38 (some 79) _ rfl (Or.inr ⟨by rfl, rfl⟩) ?_
            simp only [Act.put, aS, aZ, aC]
            refine wpAny_ready (rs := [31]) (by kernel_rfl) (by simp) ?_
            refine AllReady.cons rfl (fun K hK => ?_) AllReady.nil
            go_simp
            first | refine ⟨fun _ _ => trivial, hK _ _ ?_⟩ | refine hK _ _ ?_ | refine ⟨trivial, hK _ _ ?_⟩
            clear hK K
            refine tkA 32 (some 73) _ rfl (Or.inr ⟨by rfl, rfl⟩) ?_
            simp only [Act.put, aS, aZ, aC]
            refine tkA 33 (some 74) _ rfl (Or.inr ⟨by rfl, rfl⟩) ?_
            simp only [Act.put, aS, aZ, aC]
            refine tkA 39 (some 80) _ rfl (Or.inr ⟨by rfl, rfl⟩) ?_
            simp only [Act.put, aS, aZ, aC]
            try simp only [hTe]
            try simp only [hyl]
            refine tkA 40 (some 81) ?_ rfl (Or.inl ⟨by rfl, ?_⟩) ?_; rotate_left
            ·intro w; go_simp <;> with_reducible rfl
            simp only [Act.put, aS, aZ, aC]
            refine wpAny_done (by kernel_rfl) ?_ _
            go_wp2_with (fail)
            go_meet
            case rel => exact ⟨by rw [hng.out]; rfl, hB21⟩
          ·have hng : decide (goodW T.data.toList) = false := decide_eq_false (fun h => hpl h.2.1)
           simp only [hpl, decide_false] at cP
           replace hng := hid hng
           clear hgd hgo hge hpl cQ
           refine wp_region_any (by kernel_rfl) ?_
           try (change wpAny _ _ _ _ _ _ _ (World.drew _))
           refine tkA 0 (some 41) ?_ rfl (Or.inl ⟨by rfl, ?_⟩) ?_; rotate_left
           ·intro w; go_simp <;> with_reducible rfl
           simp only [Act.put, aS, aZ, aC]
           refine tkA 2 (some 43) ?_ rfl (Or.inl ⟨by rfl, ?_⟩) ?_; rotate_left
           ·intro w; go_simp <;> with_reducible rfl
           simp only [Act.put, aS, aZ, aC]
           refine wpAny_ready (rs := [1]) (by kernel_rfl) (by simp) ?_
           refine AllReady.cons rfl (fun K hK => ?_) AllReady.nil
           go_simp
           first | refine hK _ _ ?_ | refine ⟨trivial, hK _ _ ?_⟩ | refine ⟨fun _ _ => trivial, hK _ _ ?_⟩
           clear hK K
           refine tkA 3 (some 44) ?_ rfl (Or.inl ⟨by rfl, ?_⟩) ?_; rotate_left
           ·intro w; go_simp <;> with_reducible rfl
           simp only [Act.put, aS, aZ, aC]
           refine wpAny_ready (rs := [4]) (by kernel_rfl) (by simp) ?_
           refine AllReady.cons rfl (fun K hK => ?_) AllReady.nil
           go_simp
           first | refine hK _ _ ?_ | refine ⟨trivial, hK _ _ ?_⟩ | refine ⟨fun _ _ => trivial, hK _ _ ?_⟩
           clear hK K
           refine tkA 5 (some 46) ?_ rfl (Or.inl ⟨by rfl, ?_⟩) ?_; rotate_left
           ·intro w; go_simp <;> with_reducible rfl
           simp only [Act.put, aS, aZ, aC]
           try simp only [hTe]
           refine tkA 6 (some 47) ?_ rfl (Or.inl ⟨by rfl, ?_⟩) ?_; rotate_left
           ·intro w; go_simp <;> with_reducible rfl
           simp only [Act.put, aS, aZ, aC]
           refine tkA 7 (some 48) ?_ rfl (Or.inl ⟨by rfl, ?_⟩) ?_; rotate_left
           ·intro w; go_simp <;> with_reducible rfl
           simp only [Act.put, aS, aZ, aC]
           refine tkA 9 (some 50) ?_ rfl (Or.inl ⟨by rfl, ?_⟩) ?_; rotate_left
           ·intro w; go_simp <;> with_reducible rfl
           simp only [Act.put, aS, aZ, aC]
           refine wpAny_ready (rs := [8]) (by kernel_rfl) (by simp) ?_
           refine AllReady.cons rfl (fun K hK => ?_) AllReady.nil
           go_simp
           first | refine hK _ _ ?_ | refine ⟨trivial, hK _ _ ?_⟩ | refine ⟨fun _ _ => trivial, hK _ _ ?_⟩
           clear hK K
           refine tkA 10 (some 51) ?_ rfl (Or.inl ⟨by rfl, ?_⟩) ?_; rotate_left
           ·intro w; go_simp <;> with_reducible rfl
           simp only [Act.put, aS, aZ, aC]
           refine wpAny_ready (rs := [11]) (by kernel_rfl) (by simp) ?_
           refine AllReady.cons rfl (fun K hK => ?_) AllReady.nil
           go_simp
           first | refine hK _ _ ?_ | refine ⟨trivial, hK _ _ ?_⟩ | refine ⟨fun _ _ => trivial, hK _ _ ?_⟩
           clear hK K
           refine wpAny_ready (rs := [12]) (by kernel_rfl) (by simp) ?_
           refine AllReady.cons rfl (fun K hK => ?_) AllReady.nil
           go_simp
           refine (cP.out _).mono ?_
           rintro e w12 ⟨rfl, b12⟩
           have hB12 := hBd.trans (b12.mono hBd.size)
           have g112 := cell_blk (i := 1) ((hB12.block _ hzb).trans hbx) rfl
           have gx12 := (Kept.of_below hB12 0).cell hxm.out
           first | refine hK _ _ ?_ | refine ⟨trivial, hK _ _ ?_⟩ | refine ⟨fun _ _ => trivial, hK _ _ ?_⟩
           clear hK K
           refine tkA 13 (some 54) ?_ rfl (Or.inl ⟨by rfl, ?_⟩) ?_; rotate_left
           ·intro w; go_simp <;> with_reducible rfl
           simp only [Act.put, aS, aZ, aC]
           refine tkA 14 (some 55) ?_ rfl (Or.inl ⟨by rfl, ?_⟩) ?_; rotate_left
           ·intro w; go_simp <;> with_reducible rfl
           simp only [Act.put, aS, aZ, aC]
           refine tkA 15 (some 56) ?_ rfl (Or.inl ⟨by rfl, ?_⟩) ?_; rotate_left
           ·intro w; go_simp <;> with_reducible rfl
           simp only [Act.put, aS, aZ, aC]
           refine tkA 16 (some 57) _ rfl (Or.inr ⟨by rfl, rfl⟩) ?_
           simp only [Act.put, aS, aZ, aC]
           refine tkA 17 (some 58) _ rfl (Or.inr ⟨by rfl, rfl⟩) ?_
           simp only [Act.put, aS, aZ, aC]
           refine tkA 18 (some 59) _ rfl (Or.inr ⟨by rfl, rfl⟩) ?_
           simp only [Act.put, aS, aZ, aC]
           refine tkA 19 (some 60) _ rfl (Or.inr ⟨by rfl, rfl⟩) ?_
           simp only [Act.put, aS, aZ, aC]
           refine tkA 20 (some 61) _ rfl (Or.inr ⟨by rfl, rfl⟩) ?_
           simp only [Act.put, aS, aZ, aC]
           refine wpAny_ready (rs := [21]) (by kernel_rfl) (by simp) ?_
           refine AllReady.cons rfl (fun K hK => ?_) AllReady.nil
           go_simp
           first | refine ⟨fun _ _ => trivial, hK _ _ ?_⟩ | refine hK _ _ ?_ | refine ⟨trivial, hK _ _ ?_⟩
           clear hK K
           refine tkA 22 (some 63) _ rfl (Or.inr ⟨by rfl, rfl⟩) ?_
           simp only [Act.put, aS, aZ, aC]
           refine tkA 23 (some 64) _ rfl (Or.inr ⟨by rfl, rfl⟩) ?_
           simp only [Act.put, aS, aZ, aC]
           try simp only [hTe]
           refine tkA 24 (some 65) ?_ rfl (Or.inl ⟨by rfl, ?_⟩) ?_; rotate_left
           ·intro w; go_simp <;> with_reducible rfl
           simp only [Act.put, aS, aZ, aC]
           refine tkA 25 (some 66) ?_ rfl (Or.inl ⟨by rfl, ?_⟩) ?_; rotate_left
           ·intro w; go_simp <;> with_reducible rfl
           simp only [Act.put, aS, aZ, aC]
           refine tkA 26 (some 67) _ rfl (Or.inr ⟨by rfl, rfl⟩) ?_
           simp only [Act.put, aS, aZ, aC]
           refine tkA 27 (some 68) _ rfl (Or.inr ⟨by rfl, rfl⟩) ?_
           simp only [Act.put, aS, aZ, aC]
           refine tkA 28 (some 69) _ rfl (Or.inr ⟨by rfl, rfl⟩) ?_
           simp only [Act.put, aS, aZ, aC]
           refine tkA 29 (some 70) _ rfl (Or.inr ⟨by rfl, rfl⟩) ?_
           simp only [Act.put, aS, aZ, aC]
           refine tkA 30 (some 71) _ rfl (Or.inr ⟨by rfl, rfl⟩) ?_
           simp only [Act.put, aS, aZ, aC]
           refine tkA 34 (some 75) _ rfl (Or.inr ⟨by rfl, rfl⟩) ?_
           simp only [Act.put, aS, aZ, aC]
           refine tkA 35 (some 76) _ rfl (Or.inr ⟨by rfl, rfl⟩) ?_
           simp only [Act.put, aS, aZ, aC]
           refine tkA 36 (some 77) _ rfl (Or.inr ⟨by rfl, rfl⟩) ?_
           simp only [Act.put, aS, aZ, aC]
           refine tkA 37 (some 78) _ rfl (Or.inr ⟨by rfl, rfl⟩) ?_
           simp only [Act.put, aS, aZ, aC]
           refine tkA 38 (some 79) _ rfl (Or.inr ⟨by rfl, rfl⟩) ?_
           simp only [Act.put, aS, aZ, aC]
           refine wpAny_ready (rs := [31]) (by kernel_rfl) (by simp) ?_
           refine AllReady.cons rfl (fun K hK => ?_) AllReady.nil
           go_simp
           first | refine ⟨fun _ _ => trivial, hK _ _ ?_⟩ | refine hK _ _ ?_ | refine ⟨trivial, hK _ _ ?_⟩
           clear hK K
           refine tkA 32 (some 73) _ rfl (Or.inr ⟨by rfl, rfl⟩) ?_
           simp only [Act.put, aS, aZ, aC]
           refine tkA 33 (some 74) _ rfl (Or.inr ⟨by rfl, rfl⟩) ?_
           simp only [Act.put, aS, aZ, aC]
           refine tkA 39 (some 80) _ rfl (Or.inr ⟨by rfl, rfl⟩) ?_
           simp only [Act.put, aS, aZ, aC]
           try simp only [hTe]
           refine tkA 40 (some 81) ?_ rfl (Or.inl ⟨by rfl, ?_⟩) ?_; rotate_left
           ·intro w; go_simp <;> with_reducible rfl
           simp only [Act.put, aS, aZ, aC]
           refine wpAny_done (by kernel_rfl) ?_ _
           go_wp2_with (fail)
           go_meet
           case rel => exact ⟨by rw [hng.out]; rfl, hB12⟩
        case rest =>
         obtain ⟨rfl, hBc⟩ := hcut
         by_cases hgT : goodW T.data.toList
         ·simp only [hgT, decide_true, Bool.not_true]
          have hg2 : ∀ x ∈ ws.take (m + 1), goodW x.data.toList := by
           rw [htm.out]
           intro x hx
           rcases List.mem_append.1 hx with h | h
           ·exact hgood x h
           ·obtain rfl := List.mem_singleton.1 h
            exact hgT
          replace hg2 := hid hg2
          replace hgood := hid hgood
          go_wp2_with (fail)
          first | (refine ⟨⟨m + 1, by omega, by go_num, hg2.out, hBc⟩, ?_⟩; simp [RowKit.intOf]; omega) | (go_roundw; case rel => first | exact ⟨m + 1, by omega, by go_num, hg2.out, hBc⟩ | ((repeat apply Exists.intro); exact ⟨⟨m + 1, by omega, by go_num, hg2.out, hBc⟩, rfl⟩); case measure => simp [RowKit.intOf]; omega)
         ·simp only [hgT, decide_false, Bool.not_false]
          have hbad := hid (hnok.out (by
           rw [hgb.out, Bool.and_eq_false_iff]
           left
           rw [List.all_eq_false]
           exact ⟨T, hmem.out, by simp [hgT]⟩))
          have BWc := BW2.trans (hBc.mono BW2.size)
          replace hgood := hid hgood
          go_wp2_with (fail)
          go_ret
          exact ⟨by rw [hbad.out]; rfl, BWc⟩
       ·obtain rfl : m = ws.length := by omega
        rw [List.take_length] at hgood
        have g0 := cell_blk (i := 0) ((hB2.block _ hzb).trans hbx) rfl
        have BWv := BW2.trans (hB2.mono BW2.size)
        by_cases hk1 : kd = 1
        ·have hk1b : (kd == 1) = true := by simpa using hk1
         cases ws with
         | nil =>
          exfalso
          have : e4 = true := by rw [← h0b]; rfl
          rw [this, beq_iff_eq] at h4b
          omega
         | cons x r =>
          obtain ⟨xb, xo, cap3, he, h5, h6, hc3⟩ := sw.open (by simp)
          simp only [Value.slice.injEq] at he
          obtain ⟨rfl, -, rfl⟩ := he
          have hxm := (Kept.of_below hB2 0).cell (rangeAt_one (hc3 0 x rfl))
          rw [Nat.zero_mul, Nat.add_zero] at hxm
          clear hc3
          cases r with
          | nil =>
           obtain ⟨g, hg⟩ : ∃ g, (x.toList == [45, 45, 45]) = g := ⟨_, rfl⟩
           have hkb : kindB kd [x] = !g := by rw [hk1]; show (!(x.toList == [45, 45, 45])) = _; rw [hg]
           cases g
           ·simp only [Bool.not_false] at hkb
            have hgk : goodB kd [x] = true := by
             rw [hgb.out, hkb, Bool.and_true, List.all_eq_true]
             exact fun x hx => decide_eq_true (hgood x hx)
            have hnx : ∀ x ∈ L.take (k + 1), goodB x.1 x.2.2 = true := by
             rw [htk.out]
             intro x hx
             rcases List.mem_append.1 hx with h | h
             ·exact hall.out x h
             ·obtain rfl := List.mem_singleton.1 h
              rw [hX1.out, hX.out]; exact hgk
            replace hnx := hid hnx
            replace hkb := hid hkb
            replace hgk := hid hgk
            replace hgood := hid hgood
            go_wp2_with (fail)
            first | (refine ⟨⟨k + 1, by omega, by go_num, hnx.out, BWv⟩, ?_⟩; simp [RowKit.intOf]; omega) | (go_roundw; case rel => first | exact ⟨k + 1, by omega, by go_num, hnx.out, BWv⟩ | ((repeat apply Exists.intro); exact ⟨⟨k + 1, by omega, by go_num, hnx.out, BWv⟩, rfl⟩); case measure => simp [RowKit.intOf]; omega)
           ·simp only [Bool.not_true] at hkb
            replace hgood := hid hgood
            have hbad := hid (hnok.out (by rw [hgb.out, hkb, Bool.and_false]))
            replace hkb := hid hkb
            go_wp2_with (fail)
            go_ret
            exact ⟨by rw [hbad.out]; rfl, BWv⟩
          | cons y r =>
           obtain ⟨g, hg⟩ : ∃ g, (x.toList == [61]) = g := ⟨_, rfl⟩
           obtain ⟨g', hg'⟩ : ∃ g, (x.toList == [45]) = g := ⟨_, rfl⟩
           have hkb : kindB kd (x :: y :: r) = (!g && !g') := by rw [hk1]; show (!(x.toList == [61]) && !(x.toList == [45])) = _; rw [hg, hg']
           have hl1 : (((x :: y :: r).length : Int) == 1) = false := by simp only [List.length_cons, beq_eq_false_iff_ne, ne_eq]; omega
           have hl2 : (1 : Int) < ((x :: y :: r).length : Int) := by simp only [List.length_cons]; omega
           generalize (x :: y :: r).length = nw at *
           cases g
           ·cases g'
            ·simp only [Bool.not_false, Bool.and_self] at hkb
             have hgk : goodB kd (x :: y :: r) = true := by
              rw [hgb.out, hkb, Bool.and_true, List.all_eq_true]
              exact fun x hx => decide_eq_true (hgood x hx)
             have hnx : ∀ x ∈ L.take (k + 1), goodB x.1 x.2.2 = true := by
              rw [htk.out]
              intro x hx
              rcases List.mem_append.1 hx with h | h
              ·exact hall.out x h
              ·obtain rfl := List.mem_singleton.1 h
               rw [hX1.out, hX.out]; exact hgk
             replace hnx := hid hnx
             replace hkb := hid hkb
             replace hgk := hid hgk
             replace hgood := hid hgood
             go_wp2_with (fail)
             first | (refine ⟨⟨k + 1, by omega, by go_num, hnx.out, BWv⟩, ?_⟩; simp [RowKit.intOf]; omega) | (go_roundw; case rel => first | exact ⟨k + 1, by omega, by go_num, hnx.out, BWv⟩ | ((repeat apply Exists.intro); exact ⟨⟨k + 1, by omega, by go_num, hnx.out, BWv⟩, rfl⟩); case measure => simp [RowKit.intOf]; omega)
            ·simp only [Bool.not_true, Bool.and_false] at hkb
             replace hgood := hid hgood
             have hbad := hid (hnok.out (by rw [hgb.out, hkb, Bool.and_false]))
             replace hkb := hid hkb
             go_wp2_with (fail)
             go_ret
             exact ⟨by rw [hbad.out]; rfl, BWv⟩
           ·simp only [Bool.not_true, Bool.false_and] at hkb
            replace hgood := hid hgood
            have hbad := hid (hnok.out (by rw [hgb.out, hkb, Bool.and_false]))
            replace hkb := hid hkb
            go_wp2_with (fail)
            go_ret
            exact ⟨by rw [hbad.out]; rfl, BWv⟩
        ·have hk1b : (kd == 1) = false := by simpa using hk1
         have hkb : kindB kd ws = true := by
          unfold kindB
          by_cases h4 : kd = 4
          ·rw [if_pos h4]
           have : e4 = true := by rw [← h4b]; simpa using h4
           rw [this, beq_iff_eq] at h0b
           cases ws with
           | nil => rfl
           | cons x r => simp at h0b; omega
          ·have : e4 = false := by rw [← h4b]; simpa using h4
           rw [this, beq_eq_false_iff_ne] at h0b
           rw [if_neg h4, if_pos (by omega)]
           cases ws with
           | nil => exact absurd rfl h0b
           | cons x r => rfl
         have hgk : goodB kd ws = true := by
          rw [hgb.out, hkb, Bool.and_true, List.all_eq_true]
          exact fun x hx => decide_eq_true (hgood x hx)
         have hnx : ∀ x ∈ L.take (k + 1), goodB x.1 x.2.2 = true := by
          rw [htk.out]
          intro x hx
          rcases List.mem_append.1 hx with h | h
          ·exact hall.out x h
          ·obtain rfl := List.mem_singleton.1 h
           rw [hX1.out, hX.out]; exact hgk
         replace hnx := hid hnx
         replace hkb := hid hkb
         replace hgk := hid hgk
         replace hgood := hid hgood
         go_wp2_with (fail)
         first | (refine ⟨⟨k + 1, by omega, by go_num, hnx.out, BWv⟩, ?_⟩; simp [RowKit.intOf]; omega) | (go_roundw; case rel => first | exact ⟨k + 1, by omega, by go_num, hnx.out, BWv⟩ | ((repeat apply Exists.intro); exact ⟨⟨k + 1, by omega, by go_num, hnx.out, BWv⟩, rfl⟩); case measure => simp [RowKit.intOf]; omega)
     ·have hne : (!(e4 == e0)) = true := by simpa using hee
      have hbad := hid (hnok.out (by 
       rw [hgb.out, Bool.and_eq_false_iff]
       right
       unfold kindB
       by_cases h4 : kd = 4
       ·rw [if_pos h4]
        cases ws with
        | nil => exact absurd (by rw [← h4b, ← h0b, h4]; rfl) hee
        | cons x r => rfl
       ·cases ws with
        | nil =>
         rw [if_neg h4]
         split
         ·rfl
         ·split <;> rfl
        | cons x r =>
         refine absurd ?_ hee
         have a1 : e4 = false := by rw [← h4b]; simpa using h4
         have a2 : e0 = false := by rw [← h0b]; simp only [List.length_cons, beq_eq_false_iff_ne, ne_eq]; omega
         rw [a1, a2]))
      go_wp2_with (fail)
      go_ret
      exact ⟨by rw [hbad.out]; rfl, BW2⟩
  ·obtain rfl : k = L.length := by omega
   rw [List.take_length] at hall
   have hg : allG L = true := by unfold allG; exact List.all_eq_true.2 hall
   replace hg := hid hg
   clear hall
   go_wp2_with (fail)
   go_ret
   exact ⟨by rw [hg.out]; rfl, hB⟩
end Go.Proofs.YtempicociampoaaGreatDoor
