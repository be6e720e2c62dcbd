/- The walk of hyphen.small. -/
import Derived.Test.YtjkfefjfmocekaaDoorHypR
import Derived.Test.YtjkfefjfmocekaaDoorJ1
import Derived.Test.YtjkfefjfmocekaaDoorSetI
import Derived.Lib.ConvBytes
import Derived.Lib.SmallJoins
namespace Go.Proofs.YtjkfefjfmocekaaDoor
open Go.RowKit

theorem lower_byte : ∀ n : Nat, n < 256 → lower (n : Int) = ((lowB n.toUInt8).toNat : Int) := by decide +kernel
theorem letter_byte : ∀ n : Nat, n < 256 → letter (n : Int) = isLet n.toUInt8 := by decide +kernel

theorem Tryd.infoU8 : (Tryd.prog.info? 5).map (fun i => (i.zero, i.size, i.bytes)) = some (some (.int .u8 0), 1, 1) := by kernel_rfl

def smallOut (s : List UInt8) : Array Value := if s.all isLet = true then #[.string ⟨(s.map lowB).toArray⟩, .bool (decide (2 ≤ s.length) && decide (s.length ≤ 60))] else #[.string ⟨#[]⟩, .bool false]

set_option maxRecDepth 100000 in
set_option maxHeartbeats 2000000 in
theorem small_any (s : ByteArray) (w : World) (hs : s.size ≤ 1000) :
    Calls Tryd.prog 40 #[.string s] w fun e w' => e = .returned (.tuple (smallOut s.data.toList)) ∧ Below w.heap.size w w' := by
  have hcv := Lib.run_convert_string_bytes (P := Tryd.prog) w 9 46 5 s Tryd.underlying9 Tryd.underlying46 Tryd.underlying5
  have hB1 := Go.Joins.below_bytesWorld w.heap.size w 5 s (Nat.le_refl _)
  have hcell := hid (fun j hj => Lib.bytesWorld_cell w 5 s j hj)
  have hsz := Lib.bytesWorld_size w 5 s
  generalize Lib.bytesWorld w 5 s = w1 at *
  have hlen : s.data.toList.length = s.size := by rw [Array.length_toList]; rfl
  go_enter Tryd.func40, Tryd.ntmps40
  obtain ⟨i0, hi, hz0, hz1, hz2⟩ := info_parts Tryd.infoU8
  go_wp2_with (fail)
  go_loopw [4, 10] (fun v i wr => ∃ k : Nat, k ≤ s.size ∧ i = .int .i64 k ∧ (∃ u, v = u ∧ wr.ownsRow w1.heap.size 5 1 u k ((s.data.toList.take k).map fun c => Value.int .u8 (lowB c).toNat)) ∧ (s.data.toList.take k).all isLet = true ∧ Below w1.heap.size w1 wr) (fun _ i _ => s.size - (RowKit.intOf i).toNat)
  case atStart => exact ⟨0, Nat.zero_le _, rfl, ⟨_, rfl, World.ownsRow_nil _ _ _ _⟩, rfl, Below.refl _ _⟩
  case round =>
    obtain ⟨k, hk, rfl, ⟨_, rfl, hrow⟩, hall, hB⟩ := hrel
    by_cases hkl : k < s.size
    · have hkd : k < s.data.toList.length := by omega
      have hc0 := (hB.cell (p := ⟨w.heap.size, k, none⟩) (by simp only []; omega)).trans (hcell.out k hkl)
      have htk : s.data.toList.take (k + 1) = s.data.toList.take k ++ [s.data.toList[k]] := by rw [List.take_succ_eq_append_getElem hkd]
      have hgd : s.data.toList.getD k 0 = s.data.toList[k] := by rw [List.getD_eq_getElem?_getD, List.getElem?_eq_getElem hkd]; rfl
      rw [hgd] at hc0
      have Htk := hid htk
      clear htk hgd
      generalize s.data.toList[k] = c at *
      have hcn := c.toNat_lt
      have e1 : letter (c.toNat : Int) = isLet c := by rw [letter_byte c.toNat hcn]; simp
      have e2 : lower (c.toNat : Int) = ((lowB c).toNat : Int) := by rw [lower_byte c.toNat hcn]; simp
      have cL := fun w' => Letter_any (c.toNat : Int) w' (by omega) (by omega)
      have cW := fun w' => Lower_any (c.toNat : Int) w' (by omega) (by omega)
      rw [e1] at cL
      rw [e2] at cW
      have hl1 := (lowB c).toNat_lt
      clear e1 e2
      replace cL := hid cL
      replace cW := hid cW
      by_cases hlet : isLet c = true
      · rw [hlet] at cL
        obtain ⟨pu, cu, rfl, hu1, hu2⟩ := owns_shape hrow
        unfold maxLen at hu2
        go_wp2_with (fail)
        refine (cL.out _).mono ?_
        rintro e w' ⟨rfl, rfl⟩
        go_wp2_with (fail)
        refine (cW.out _).mono ?_
        rintro e w' ⟨rfl, rfl⟩
        go_wp2_with (at_builtin; go_must (refine wpList_append_own _ rfl _ _ 46 rfl w1.heap.size 5 i0 (.int .u8 0) 1 1 Tryd.underlying46 hi hz0 hz1 hz2 rfl (by decide) _ _ _ rfl (hrow.alloc _) ⟨_, 0, none⟩ 1 1 [.int .u8 (lowB c).toNat] rfl rfl (cells_new _ _ _) (by simp [Value.oneCell']) (by unfold maxLen; omega) (by omega) (by have := hB.size; simp; omega) ?_; intro v' w2 hown' hgrow _))
        have hB1 := hB.alloc hB.size (.cells #[.int .u8 (lowB c).toNat] 5)
        refine ⟨⟨k + 1, by omega, by go_num, ⟨_, rfl, ?_⟩, ?_, hB1.grown hgrow hB1.size (fun j e => own_base hrow e)⟩, by simp [RowKit.intOf]; omega⟩
        · rw [Htk.out]; simpa using hown'
        · rw [Htk.out, List.all_append, hall]; simp [hlet]
      · have hl0 : isLet c = false := by simpa using hlet
        rw [hl0] at cL
        have hout : smallOut s.data.toList = #[.string ⟨#[]⟩, .bool false] := by
          unfold smallOut
          rw [if_neg (fun h => by
            have h2 := List.all_eq_true.1 h c (by
              have h3 : c ∈ s.data.toList.take (k + 1) := by rw [Htk.out]; simp
              exact List.mem_of_mem_take h3)
            rw [hl0] at h2; cases h2)]
        go_wp2_with (fail)
        refine (cL.out _).mono ?_
        rintro e w' ⟨rfl, rfl⟩
        go_wp2
        go_ret2
        exact ⟨by rw [hout]; rfl, hB1.trans (hB.mono hB1.size)⟩
    · obtain rfl : k = s.size := by omega
      rw [show s.data.toList.take s.size = s.data.toList from List.take_of_length_le (by omega)] at hrow hall
      obtain ⟨pu, cu, rfl, hu1, hu2⟩ := owns_shape hrow
      have hsl : Sl wr 1 encB (.slice pu s.size cu) (s.data.toList.map fun c => ((lowB c).toNat : Int)) := by
        refine sl_of_owns (e := 5) (base := w1.heap.size) (fun _ _ => rfl) ?_
        have e1 : ((s.data.toList.map fun c => ((lowB c).toNat : Int))).flatMap encB = s.data.toList.map fun c => Value.int .u8 (lowB c).toNat := by
          generalize s.data.toList = L
          induction L with
          | nil => rfl
          | cons a L ih => simp only [List.map_cons, List.flatMap_cons, ih]; rfl
        rw [e1, List.length_map, hlen]
        exact hrow
      have hcv2 := conv_sl hsl
      have estr : strOfNums (s.data.toList.map fun c => ((lowB c).toNat : Int)) = ⟨(s.data.toList.map lowB).toArray⟩ := by
        unfold strOfNums
        congr 2
        rw [List.map_map]
        exact List.map_congr_left fun c _ => by simp
      rw [estr] at hcv2
      have hout := hid (show smallOut s.data.toList = #[.string ⟨(s.data.toList.map lowB).toArray⟩, .bool (decide (2 ≤ s.size) && decide (s.size ≤ 60))] by
        unfold smallOut; rw [if_pos hall, hlen])
      unfold maxLen at hu2
      clear hrow hsl estr hall
      by_cases h1 : 2 ≤ s.size
      · by_cases h2 : s.size ≤ 60
        · go_wp2
          go_ret2
          refine ⟨?_, hB1.trans (hB.mono hB1.size)⟩
          rw [hout.out]; simp [h1, h2]; omega
        · go_wp2
          go_ret2
          refine ⟨?_, hB1.trans (hB.mono hB1.size)⟩
          rw [hout.out]; simp [h1, h2]; omega
      · go_wp2
        go_ret2
        refine ⟨?_, hB1.trans (hB.mono hB1.size)⟩
        rw [hout.out]; simp [h1]
end Go.Proofs.YtjkfefjfmocekaaDoor
