/- strings.HasPrefix, and a string's iterator in any world. The walks of utf's and the reference's small functions (by gen_utfa.py). Plain laws of a word's numbers: great and small letters are alike; where a word may be broken. The walk of hyphen.small. A region that defers nothing, drawn in a round of a loop over a function, is walked as outside of every round: operations may be taken first. -/
import Derived.Test.YtempicociampoaaDoorJ6
import Derived.Laws.RangeString
import Derived.Test.YtempicociampoaaDoorJ3
import Derived.Test.YtempicociampoaaDoorLib
import Derived.Test.YtempicociampoaaDoorJ5
import Derived.Test.YtempicociampoaaDoorJ4
import Derived.Test.YtempicociampoaaDoorUtfE
import Derived.Test.YtempicociampoaaDoorJ1
import Derived.Lib.ConvBytes
import Derived.Lib.SmallJoins
import Derived.Test.YtempicociampoaaDoorJ0
namespace Go.Proofs.YtempicociampoaaDoor
open Go.RowKit Go.Shelf
attribute [local go_sem] Oper.semAt_some

theorem next_ascii {P : Program} {w : World} {L : Nat} {s : ByteArray} {pos : Nat} (hL : w.heap[L]? = some (.stringIter s pos)) (ty : TypeId) (h : pos < s.size) (ha : (s[pos]'h).toNat < 128) :
    (Instr.next (.pointer (some ⟨L, 0, none⟩)) true ty).run P w = .ok (.tuple #[.bool true, .int .i64 pos, .int .i32 (s[pos]'h).toNat]) (w.putObj L (.stringIter s (pos + 1))) := by
  simp only [Instr.next, getObj, setObj, Sem.run_bind, Sem.run, hL, Result.andThen, h, if_true, decode_ascii s pos h ha]
  simp [goInt, World.putObj]
theorem next_end {P : Program} {w : World} {L : Nat} {s : ByteArray} {pos : Nat} (hL : w.heap[L]? = some (.stringIter s pos)) (ty : TypeId) (h : ¬ pos < s.size) :
    (Instr.next (.pointer (some ⟨L, 0, none⟩)) true ty).run P w = .ok (.tuple #[.bool false]) w := by
  simp [Instr.next, getObj, Sem.run, hL, h]

theorem prefix_bytes (s t : ByteArray) (_h : t.size ≤ s.size) : ((s.extract 0 t.size).toList == t.toList) = t.data.toList.isPrefixOf s.data.toList := by
  rw [Bool.eq_iff_iff, List.isPrefixOf_iff_prefix, beq_iff_eq, List.prefix_iff_eq_take, ByteArray.toList_eq, ByteArray.toList_eq]
  have e1 : (s.extract 0 t.size).data.toList = s.data.toList.take t.data.toList.length := by
    simp [ByteArray.data_extract, Array.toList_extract]
  rw [e1]
  exact eq_comm

theorem HasPrefix_any (s t : ByteArray) (w : World) (hs : s.size ≤ 1000000) (ht : t.size ≤ 1000000) :
    Calls Tryd.prog 86 #[.string s, .string t] w fun e w' => e = .returned (.bool (t.data.toList.isPrefixOf s.data.toList)) ∧ w' = w := by
  have hp := prefix_bytes s t
  have hsm : s.size < t.size → t.data.toList.isPrefixOf s.data.toList = false := by
    intro h
    rw [Bool.eq_false_iff]
    intro h2
    have h3 := (List.isPrefixOf_iff_prefix.1 h2).length_le
    have h4 : t.data.toList.length = t.size := by rw [Array.length_toList]; rfl
    have h5 : s.data.toList.length = s.size := by rw [Array.length_toList]; rfl
    omega
  generalize t.data.toList.isPrefixOf s.data.toList = b at *
  have hc : ∀ W, Calls Tryd.prog 91 #[.string s, .string t] W fun e w' => e = .returned (.bool b) ∧ w' = W := by
    intro W
    replace hp := hid hp
    replace hsm := hid hsm
    go_enter Tryd.func91, Tryd.ntmps91
    have hs' : (s.size : Int) ≤ 1000000 := by omega
    have ht' : (t.size : Int) ≤ 1000000 := by omega
    by_cases h : (t.size : Int) ≤ s.size
    · go_wp2
      go_ret
      exact ⟨by rw [hp.out (by omega)]; rfl, rfl⟩
    · go_wp2
      go_ret
      exact ⟨by rw [hsm.out (by omega)]; rfl, rfl⟩
  replace hc := hid hc
  clear hp hsm
  go_enter Tryd.func86, Tryd.ntmps86
  go_wp2_with (fail)
  refine (hc.out _).mono ?_
  rintro e w' ⟨rfl, rfl⟩
  go_wp2
  go_ret
  exact ⟨rfl, rfl⟩
end Go.Proofs.YtempicociampoaaDoor
namespace Go.Proofs.YtempicociampoaaDoor
open Go.RowKit

def lower (n : Int) : Int := if 65 ≤ n ∧ n ≤ 90 then n + 32 else n
def letter (n : Int) : Bool := decide (97 ≤ lower n ∧ lower n ≤ 122)
set_option maxHeartbeats 400000 in
theorem Lower_any (n : Int) (w : World) (h1 : -9223372036854775808 ≤ n) (h2 : n ≤ 9223372036854775807) :
    Calls Tryd.prog 88 #[.int .i64 n] w fun e w' => e = .returned (.int .i64 (lower n)) ∧ w = w' := by
  by_cases a : 65 ≤ n
  · by_cases b : n ≤ 90
    · go_enter Tryd.func88, Tryd.ntmps88
      go_wp2
      all_goals go_ret
      all_goals exact ⟨ret_int (by unfold lower; split <;> omega), rfl⟩
    · go_enter Tryd.func88, Tryd.ntmps88
      go_wp2
      all_goals go_ret
      all_goals exact ⟨ret_int (by unfold lower; split <;> omega), rfl⟩
  · go_enter Tryd.func88, Tryd.ntmps88
    go_wp2
    all_goals go_ret
    all_goals exact ⟨ret_int (by unfold lower; split <;> omega), rfl⟩

set_option maxHeartbeats 400000 in
theorem Letter_any (n : Int) (w : World) (h1 : -9223372036854775808 ≤ n) (h2 : n ≤ 9223372036854775807) :
    Calls Tryd.prog 87 #[.int .i64 n] w fun e w' => e = .returned (.bool (letter n)) ∧ w = w' := by
  have hx : ∀ x : Int, lower n = x → letter n = decide (97 ≤ x ∧ x ≤ 122) := fun x hx => by simp only [letter, hx]
  have hc : ∀ w, Calls Tryd.prog 88 #[.int .i64 n] w fun e w' => e = .returned (.int .i64 (lower n)) ∧ w = w' := fun w => Lower_any n w h1 h2
  obtain ⟨x, hl⟩ : ∃ x, lower n = x := ⟨_, rfl⟩
  have hr := hx x hl
  rw [hl] at hc
  rw [hr]
  have HC := hid hc
  clear hr hx hl hc
  by_cases a : 97 ≤ x
  · by_cases b : x ≤ 122
    · go_enter Tryd.func87, Tryd.ntmps87
      go_wp2_with (go_at_call 88; refine (HC.out _).mono ?_; rintro e w' ⟨rfl, rfl⟩)
      go_ret
      exact ⟨ret_bool (by simp [a, b]), rfl⟩
    · go_enter Tryd.func87, Tryd.ntmps87
      go_wp2_with (go_at_call 88; refine (HC.out _).mono ?_; rintro e w' ⟨rfl, rfl⟩)
      go_ret
      exact ⟨ret_bool (by simp; omega), rfl⟩
  · go_enter Tryd.func87, Tryd.ntmps87
    go_wp2_with (go_at_call 88; refine (HC.out _).mono ?_; rintro e w' ⟨rfl, rfl⟩)
    go_ret
    exact ⟨ret_bool (by simp; omega), rfl⟩

end Go.Proofs.YtempicociampoaaDoor
namespace Go.Proofs.YtempicociampoaaDoor
open Go.RowKit Go.Lib

theorem pointsTo_len (nums : List Int) : ∀ k, (pointsTo nums k).length ≤ k := by
  intro k; induction k with
  | zero => exact Nat.le_refl _
  | succ k ih => unfold pointsTo; rw [List.length_append]; split <;> simp <;> omega
end Go.Proofs.YtempicociampoaaDoor
namespace Go.Proofs.YtempicociampoaaDoor
open Go.RowKit

theorem lower_byte : ∀ n : Nat, n < 256 → lower (n : Int) = ((lowB n.toUInt8).toNat : Int) := by decide +kernel
theorem letter_byte : ∀ n : Nat, n < 256 → letter (n : Int) = isLet n.toUInt8 := by decide +kernel

theorem Tryd.infoU8 : (Tryd.prog.info? 5).map (fun i => (i.zero, i.size, i.bytes)) = some (some (.int .u8 0), 1, 1) := by kernel_rfl

def smallOut (s : List UInt8) : Array Value := if s.all isLet = true then #[.string ⟨(s.map lowB).toArray⟩, .bool (decide (2 ≤ s.length) && decide (s.length ≤ 60))] else #[.string ⟨#[]⟩, .bool false]

set_option maxRecDepth 100000 in
set_option maxHeartbeats 2000000 in
theorem small_any (s : ByteArray) (w : World) (hs : s.size ≤ 1000) :
    Calls Tryd.prog 84 #[.string s] w fun e w' => e = .returned (.tuple (smallOut s.data.toList)) ∧ Below w.heap.size w w' := by
  have hcv := Lib.run_convert_string_bytes (P := Tryd.prog) w 9 58 5 s Tryd.underlying9 Tryd.underlying58 Tryd.underlying5
  have hB1 := Go.Joins.below_bytesWorld w.heap.size w 5 s (Nat.le_refl _)
  have hcell := hid (fun j hj => Lib.bytesWorld_cell w 5 s j hj)
  have hsz := Lib.bytesWorld_size w 5 s
  generalize Lib.bytesWorld w 5 s = w1 at *
  have hlen : s.data.toList.length = s.size := by rw [Array.length_toList]; rfl
  go_enter Tryd.func84, Tryd.ntmps84
  obtain ⟨i0, hi, hz0, hz1, hz2⟩ := info_parts Tryd.infoU8
  go_wp2_with (fail)
  go_loopw [4, 10] (fun v i wr => ∃ k : Nat, k ≤ s.size ∧ i = .int .i64 k ∧ (∃ u, v = u ∧ wr.ownsRow w1.heap.size 5 1 u k ((s.data.toList.take k).map fun c => Value.int .u8 (lowB c).toNat)) ∧ (s.data.toList.take k).all isLet = true ∧ Below w1.heap.size w1 wr) (fun _ i _ => s.size - (RowKit.intOf i).toNat)
  case atStart => exact ⟨0, Nat.zero_le _, rfl, ⟨_, rfl, World.ownsRow_nil _ _ _ _⟩, rfl, Below.refl _ _⟩
  case round =>
    obtain ⟨k, hk, rfl, ⟨_, rfl, hrow⟩, hall, hB⟩ := hrel
    by_cases hkl : k < s.size
    · have hkd : k < s.data.toList.length := by omega
      have hc0 := (hB.cell (p := ⟨w.heap.size, k, none⟩) (by simp only []; omega)).trans (hcell.out k hkl)
      have htk : s.data.toList.take (k + 1) = s.data.toList.take k ++ [s.data.toList[k]] := by rw [List.take_succ_eq_append_getElem hkd]
      have hgd : s.data.toList.getD k 0 = s.data.toList[k] := by rw [List.getD_eq_getElem?_getD, List.getElem?_eq_getElem hkd]; rfl
      rw [hgd] at hc0
      have Htk := hid htk
      clear htk hgd
      generalize s.data.toList[k] = c at *
      have hcn := c.toNat_lt
      have e1 : letter (c.toNat : Int) = isLet c := by rw [letter_byte c.toNat hcn]; simp
      have e2 : lower (c.toNat : Int) = ((lowB c).toNat : Int) := by rw [lower_byte c.toNat hcn]; simp
      have cL := fun w' => Letter_any (c.toNat : Int) w' (by omega) (by omega)
      have cW := fun w' => Lower_any (c.toNat : Int) w' (by omega) (by omega)
      rw [e1] at cL
      rw [e2] at cW
      have hl1 := (lowB c).toNat_lt
      clear e1 e2
      replace cL := hid cL
      replace cW := hid cW
      by_cases hlet : isLet c = true
      · rw [hlet] at cL
        obtain ⟨pu, cu, rfl, hu1, hu2⟩ := owns_shape hrow
        unfold maxLen at hu2
        go_wp2_with (fail)
        refine (cL.out _).mono ?_
        rintro e w' ⟨rfl, rfl⟩
        go_wp2_with (fail)
        refine (cW.out _).mono ?_
        rintro e w' ⟨rfl, rfl⟩
        go_wp2_with (at_builtin; go_must (refine wpList_append_own _ rfl _ _ 58 rfl w1.heap.size 5 i0 (.int .u8 0) 1 1 Tryd.underlying58 hi hz0 hz1 hz2 rfl (by decide) _ _ _ rfl (hrow.alloc _) ⟨_, 0, none⟩ 1 1 [.int .u8 (lowB c).toNat] rfl rfl (cells_new _ _ _) (by simp [Value.oneCell']) (by unfold maxLen; omega) (by omega) (by have := hB.size; simp; omega) ?_; intro v' w2 hown' hgrow _))
        have hB1 := hB.alloc hB.size (.cells #[.int .u8 (lowB c).toNat] 5)
        refine ⟨⟨k + 1, by omega, by go_num, ⟨_, rfl, ?_⟩, ?_, hB1.grown hgrow hB1.size (fun j e => own_base hrow e)⟩, by simp [RowKit.intOf]; omega⟩
        · rw [Htk.out]; simpa using hown'
        · rw [Htk.out, List.all_append, hall]; simp [hlet]
      · have hl0 : isLet c = false := by simpa using hlet
        rw [hl0] at cL
        have hout : smallOut s.data.toList = #[.string ⟨#[]⟩, .bool false] := by
          unfold smallOut
          rw [if_neg (fun h => by
            have h2 := List.all_eq_true.1 h c (by
              have h3 : c ∈ s.data.toList.take (k + 1) := by rw [Htk.out]; simp
              exact List.mem_of_mem_take h3)
            rw [hl0] at h2; cases h2)]
        go_wp2_with (fail)
        refine (cL.out _).mono ?_
        rintro e w' ⟨rfl, rfl⟩
        go_wp2
        go_ret2
        exact ⟨by rw [hout]; rfl, hB1.trans (hB.mono hB1.size)⟩
    · obtain rfl : k = s.size := by omega
      rw [show s.data.toList.take s.size = s.data.toList from List.take_of_length_le (by omega)] at hrow hall
      obtain ⟨pu, cu, rfl, hu1, hu2⟩ := owns_shape hrow
      have hsl : Sl wr 1 encB (.slice pu s.size cu) (s.data.toList.map fun c => ((lowB c).toNat : Int)) := by
        refine sl_of_owns (e := 5) (base := w1.heap.size) (fun _ _ => rfl) ?_
        have e1 : ((s.data.toList.map fun c => ((lowB c).toNat : Int))).flatMap encB = s.data.toList.map fun c => Value.int .u8 (lowB c).toNat := by
          generalize s.data.toList = L
          induction L with
          | nil => rfl
          | cons a L ih => simp only [List.map_cons, List.flatMap_cons, ih]; rfl
        rw [e1, List.length_map, hlen]
        exact hrow
      have hcv2 := conv_sl hsl
      have estr : strOfNums (s.data.toList.map fun c => ((lowB c).toNat : Int)) = ⟨(s.data.toList.map lowB).toArray⟩ := by
        unfold strOfNums
        congr 2
        rw [List.map_map]
        exact List.map_congr_left fun c _ => by simp
      rw [estr] at hcv2
      have hout := hid (show smallOut s.data.toList = #[.string ⟨(s.data.toList.map lowB).toArray⟩, .bool (decide (2 ≤ s.size) && decide (s.size ≤ 60))] by
        unfold smallOut; rw [if_pos hall, hlen])
      unfold maxLen at hu2
      clear hrow hsl estr hall
      by_cases h1 : 2 ≤ s.size
      · by_cases h2 : s.size ≤ 60
        · go_wp2
          go_ret2
          refine ⟨?_, hB1.trans (hB.mono hB1.size)⟩
          rw [hout.out]; simp [h1, h2]; omega
        · go_wp2
          go_ret2
          refine ⟨?_, hB1.trans (hB.mono hB1.size)⟩
          rw [hout.out]; simp [h1, h2]; omega
      · go_wp2
        go_ret2
        refine ⟨?_, hB1.trans (hB.mono hB1.size)⟩
        rw [hout.out]; simp [h1]
end Go.Proofs.YtempicociampoaaDoor
namespace Go.Proofs.YtempicociampoaaDoor
open Go.RowKit
def noDefer (ops : Array Oper) : Bool := ops.toList.all fun o => match o.op with | .defer _ => false | _ => true
theorem oper_out {F : Fence} {n l : Nat} {P : Program} {o : Oper} {a : Act} {w : World} {K : Act → World → Prop} {Q : Exit → Act → World → Prop} (ho : ∀ c, o.op ≠ .defer c) (_hr : F.round = none)
    (h : o.wpIn F n P a w K Q) : o.wpIn (F.inRound l) n P a w K Q := by
  unfold Oper.wpIn at *
  rw [Oper.semAt_eq _ _ _ ho] at h ⊢
  exact h
theorem opIn_out {F : Fence} {n l i : Nat} {P : Program} {ops : Array Oper} {a : Act} {w : World} {K : Act → World → Prop} {Q : Exit → Act → World → Prop} (hn : noDefer ops = true) (hr : F.round = none)
    (h : wpOpIn F n P ops Q i K a w) : wpOpIn (F.inRound l) n P ops Q i K a w := by
  unfold wpOpIn at *
  cases ho : ops[i]? with
  | none => simpa [ho] using h
  | some o =>
    simp only [ho] at h ⊢
    have hd : ∀ c, o.op ≠ .defer c := by
      intro c hc
      have h1 := List.all_eq_true.1 hn o (Array.mem_toList_iff.2 (Array.mem_of_getElem? ho))
      rw [hc] at h1; cases h1
    split
    · rename_i hw; rw [if_pos hw] at h; exact oper_out hd hr h
    · rename_i hw; rw [if_neg hw] at h; exact h
theorem anyIn_out {F : Fence} {n l : Nat} {P : Program} {md : Region.Mode} {ops : Array Oper} {Q : Exit → Act → World → Prop} (hn : noDefer ops = true) (hr : F.round = none) :
    ∀ (fuel : Nat) (listed : Array Bool) (a : Act) (w : World), wpAnyIn F n P md ops Q fuel listed a w → wpAnyIn (F.inRound l) n P md ops Q fuel listed a w := by
  intro fuel
  induction fuel with
  | zero => intro listed a w h; exact h
  | succ fuel ih =>
    intro listed a w h
    exact ⟨h.1, fun i hi => opIn_out hn hr (wpOpIn_mono (fun a w => ih _ _ _) (h.2 i hi))⟩
theorem region_out {F : Fence} {n l id : Nat} {P : Program} {ops : Array Oper} {Q : Exit → Act → World → Prop} {a : Act} {w : World} (hm : P.follows .mixedOrders = true) (hn : noDefer ops = true) (hr : F.round = none)
    (h : wpAnyIn F n P .any ops Q ops.size (Array.replicate ops.size false) a w.drew) : (Code.region id ops true).wpIn (F.inRound l) n P Q a w :=
  wpIn_region_any hm (anyIn_out hn hr _ _ _ _ h)
end Go.Proofs.YtempicociampoaaDoor
