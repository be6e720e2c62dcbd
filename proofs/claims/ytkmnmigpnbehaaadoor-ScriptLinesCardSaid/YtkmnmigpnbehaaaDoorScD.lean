/- The walk of script's read. -/
import Derived.Test.YtkmnmigpnbehaaaDoorScC
import Derived.Test.YtkmnmigpnbehaaaDoorBlk
namespace Go.Proofs.YtkmnmigpnbehaaaDoor
open Go.RowKit Go.Shelf Go.Lib

/-- what read leaves: the operation's cells anew -/
def ReadE (x : OpB) (b : Nat) (c : UInt8) (s : ByteArray) (w : World) (e : Ending) (w' : World) : Prop :=
  ∃ (y : OpB) (w1 : World) (j : Nat) (v : Value), e = .returned (.bool (readS (op8 x) c s.data.toList).isSome) ∧ (∀ z, readS (op8 x) c s.data.toList = some z → op8 y = z) ∧ w'.heap[b]? = some (.cells (opC y) 25 (0, 0)) ∧ Below w.heap.size w w1 ∧ w' = w1.setCell ⟨b, j, none⟩ v

set_option maxRecDepth 100000 in
set_option maxHeartbeats 8000000 in
theorem readX_any (x : OpB) (b : Nat) (s : ByteArray) (w : World) (hs : s.size ≤ 1000000) (hbx : w.heap[b]? = some (.cells (opC x) 25 (0, 0))) :
    Calls Tryd.prog 25 #[.pointer (some ⟨b, 0, none⟩), .int .u8 88, .string s] w fun e w' => ReadE x b 88 s w e w' := by
  have cT := hid (text_any s w hs)
  have hR : readS (op8 x) 88 s.data.toList = (textS s.data.toList).map fun t => { op8 x with src := t } := rfl
  have hlt : b < w.heap.size := (Array.getElem?_eq_some_iff.1 hbx).1
  unfold ReadE
  rw [hR]
  go_enter Tryd.func25, Tryd.ntmps25
  go_wp2_with (fail)
  refine cT.out.mono ?_
  rintro e w1 ⟨t, rfl, ht, b1⟩
  have hb1 := (b1.block b hlt).trans hbx
  have g4 := cell_blk (i := 4) hb1 rfl
  have f4 := frozen_blk hb1 (i := 4)
  obtain ⟨ok, hok⟩ : ∃ k, (textS s.data.toList).isSome = k := ⟨_, rfl⟩
  rw [hok]
  replace ht := hid ht
  replace hok := hid hok
  clear cT hR
  go_wp2_with (fail)
  go_ret
  refine ⟨{ x with s := t }, w1, 4, .string t, ?_, fun z hz => ?_, ?_, b1, rfl⟩
  · rw [Option.isSome_map, hok.out]; rfl
  · obtain ⟨u, hu, rfl⟩ := Option.map_eq_some_iff.1 hz
    unfold op8
    dsimp only
    rw [ht.out u hu]
  · exact setCell_blk hb1

def setB (x : OpB) (c : UInt8) (v : Int) : OpB :=
  if c = 82 then { x with r := v } else if c = 79 then { x with o := v } else if c = 78 then { x with n := v } else if c = 87 then { x with w := v } else if c = 72 then { x with h := v } else if c = 84 then { x with t := v } else if c = 67 then { x with c := v } else { x with i := v }
theorem op8_set {c : UInt8} (h : c ∈ lets) (x : OpB) (v : Int) : op8 (setB x c v) = setF (op8 x) c v := by
  rcases lets_cases h with rfl | rfl | rfl | rfl | rfl | rfl | rfl | rfl <;> rfl
theorem opC_set {c : UInt8} (h : c ∈ lets) (x : OpB) (v : Int) : opC (setB x c v) = (opC x).setIfInBounds (offF c) (.int .i64 v) := by
  rcases lets_cases h with rfl | rfl | rfl | rfl | rfl | rfl | rfl | rfl <;> rfl
theorem opC_get {c : UInt8} (h : c ∈ lets) (x : OpB) : (opC x)[offF c]? = some (.int .i64 (getF (op8 x) c)) := by
  rcases lets_cases h with rfl | rfl | rfl | rfl | rfl | rfl | rfl | rfl <;> rfl

set_option maxRecDepth 100000 in
set_option maxHeartbeats 8000000 in
theorem readN_any (x : OpB) (b : Nat) (c : UInt8) (hc : c ∈ lets) (s : ByteArray) (w : World) (hs : s.size ≤ 1000000) (hT : STabs w) (hbx : w.heap[b]? = some (.cells (opC x) 25 (0, 0))) :
    Calls Tryd.prog 25 #[.pointer (some ⟨b, 0, none⟩), .int .u8 c.toNat, .string s] w fun e w' => ReadE x b c s w e w' := by
  have cF := hid (field_any b 0 c hc w)
  have cN := hid (number_any s w hs hT)
  have h88 : c ≠ 88 := by rintro rfl; exact absurd hc (by decide)
  have hR : readS (op8 x) c s.data.toList = (numS s.data.toList).map fun n : Nat => setF (op8 x) c (n : Int) := by unfold readS; rw [if_neg h88]
  have hlt : b < w.heap.size := (Array.getElem?_eq_some_iff.1 hbx).1
  have hcb : ((c.toNat : Int) == 88) = false := by
    rw [beq_eq_false_iff_ne]
    intro h
    exact h88 (UInt8.toNat_inj.1 (by show c.toNat = 88; omega))
  have hget := opC_get hc x
  have hset := fun v => opC_set hc x v
  have h8 := fun v => op8_set hc x v
  simp only [Nat.zero_add] at cF
  unfold ReadE
  rw [hR]
  generalize offF c = o at *
  replace h88 := hid h88
  replace hset := hid hset
  replace h8 := hid h8
  go_enter Tryd.func25, Tryd.ntmps25
  go_wp2_with (fail)
  refine cF.out.mono ?_
  rintro e w0 ⟨rfl, rfl⟩
  go_wp2_with (fail)
  refine cN.out.mono ?_
  rintro e w1 ⟨n, rfl, hn, b1⟩
  have hb1 := (b1.block b hlt).trans hbx
  have g4 := cell_blk (i := o) hb1 hget
  have f4 := frozen_blk hb1 (i := o)
  obtain ⟨ok, hok⟩ : ∃ k, (numS s.data.toList).isSome = k := ⟨_, rfl⟩
  rw [hok]
  replace hn := hid hn
  replace hok := hid hok
  clear cF cN hR hget
  go_wp2_with (fail)
  go_ret
  refine ⟨setB x c n, w1, o, .int .i64 n, ?_, fun z hz => ?_, ?_, b1, rfl⟩
  · rw [Option.isSome_map, hok.out]; rfl
  · obtain ⟨u, hu, rfl⟩ := Option.map_eq_some_iff.1 hz
    rw [h8.out, hn.out u hu]
  · rw [hset.out]; exact setCell_blk hb1
theorem read_any (x : OpB) (b : Nat) (c : UInt8) (hc : c = 88 ∨ c ∈ lets) (s : ByteArray) (w : World) (hs : s.size ≤ 1000000) (hT : STabs w) (hbx : w.heap[b]? = some (.cells (opC x) 25 (0, 0))) :
    Calls Tryd.prog 25 #[.pointer (some ⟨b, 0, none⟩), .int .u8 c.toNat, .string s] w fun e w' => ReadE x b c s w e w' := by
  rcases hc with rfl | hc
  · exact readX_any x b s w hs hbx
  · exact readN_any x b c hc s w hs hT hbx
end Go.Proofs.YtkmnmigpnbehaaaDoor
