/- The walks of setting.Wide, keep.Pieces. -/
import Derived.Test.YtempicociampoaaGreatDoorSetJ
import Derived.Test.YtempicociampoaaGreatDoorJ1
import Derived.Test.YtempicociampoaaGreatDoorJ18
namespace Go.Proofs.YtempicociampoaaGreatDoor
open Go.RowKit Go.Shelf
attribute [local go_sem] Oper.semAt_some

/-- how wide a text is -/
noncomputable def tw (s : ByteArray) : Int := sumw (sgn s.data.toList)
theorem tw_bd (s : ByteArray) : 0 ≤ tw s ∧ tw s ≤ 10 * s.size := by
 have h1 := sumw_bd (sgn s.data.toList)
 have h2 := sgn_len s
 unfold tw; omega

theorem piece_cells {w : World} {b o : Nat} {x : Int × ByteArray} (h : w.rangeAt b o (encPc x)) : w.cell? ⟨b, o, none⟩ = some (.int .i64 x.1) ∧ w.cell? ⟨b, o + 1, none⟩ = some (.string x.2) := ⟨h 0 _ rfl, h 1 _ rfl⟩

set_option maxRecDepth 100000 in
set_option maxHeartbeats 2000000 in
theorem Wide_any (v : Value) (ps : List (Int × ByteArray)) (w : World) (hl : Sl w 2 encPc v ps) (hb : ∀ p ∈ ps, -1000000000000000000 ≤ p.1 ∧ p.1 ≤ 1000000000000000000 ∧ p.2.size ≤ 2000000) (hT : Tabs w) :
  Calls Tryz.prog 23 #[v] w fun e w' => e = .returned (.int .i64 (endW tw ps)) ∧ Below w.heap.size w w' := by
 by_cases h0 : ps = []
 ·subst h0
  obtain ⟨p, c, rfl, -⟩ := hl.shape
  clear hl
  go_enter Tryz.func23, Tryz.ntmps23
  go_wp2
  go_ret
  exact ⟨rfl, Below.refl _ _⟩
 ·have hpos : 0 < ps.length := List.length_pos_iff.2 h0
  obtain ⟨b, o, c, rfl, h1, h2, h3⟩ := hl.open h0
  have hlast : ps.getLast? = some ps[ps.length - 1] := by rw [List.getLast?_eq_getElem?]; exact List.getElem?_eq_getElem (by omega)
  obtain ⟨x1, x2⟩ := piece_cells (h3 (ps.length - 1) ps[ps.length - 1] (List.getElem?_eq_getElem (by omega)))
  obtain ⟨q1, q2, q3⟩ := hb _ (List.getElem_mem (show ps.length - 1 < ps.length by omega))
  have hE := hid (show endW tw ps = ps[ps.length - 1].1 + tw ps[ps.length - 1].2 by unfold endW; rw [hlast])
  clear hlast h3 hb hl
  have ht := tw_bd ps[ps.length - 1].2
  generalize ps[ps.length - 1] = x at *
  unfold maxLen at h2
  have hM := fun w (h : Tabs w) => MText_any x.2 w q3 h
  have hMT : ∀ w', Below w.heap.size w w' → Tabs w' := fun w' h => hT.below h
  rw [show sumw (sgn x.2.data.toList) = tw x.2 from rfl] at hM
  generalize tw x.2 = t at *
  replace hM := hid hM
  replace hMT := hid hMT
  clear hT
  have hne : ((ps.length : Int) == 0) = false := by simp; omega
  have hcast : ((ps.length - 1 : Nat) : Int) = (ps.length : Int) - 1 := by omega
  go_enter Tryz.func23, Tryz.ntmps23
  go_upto_region 4 with (fail)
  have hB1 := (Below.refl w.heap.size w).alloc (Nat.le_refl _) (.cells #[.int .i64 x.1, .string x.2] 47)
  have hk := World.alloc_heap_new w (.cells #[.int .i64 x.1, .string x.2] 47)
  have hlt : w.heap.size < (w.alloc (.cells #[.int .i64 x.1, .string x.2] 47)).heap.size := by simp
  have hM2 := hid (hM.out (w.alloc (.cells #[.int .i64 x.1, .string x.2] 47)).drew (hMT.out _ (Below.drew hB1)))
  clear hM hMT x1 x2
  generalize hwb : w.alloc (.cells #[.int .i64 x.1, .string x.2] 47) = w2 at *
  have hwb' := hid hwb
  clear hwb
  have x1 : w2.cell? ⟨w.heap.size, 0, none⟩ = some (.int .i64 x.1) := cell_blk hk rfl
  have x2 : w2.cell? ⟨w.heap.size, 1, none⟩ = some (.string x.2) := cell_blk hk rfl
  have r1 : IntKind.i64.wrap (x.1 + t) = x.1 + t := IntWalk.i64_in _ (by omega)
  go_region_with (go_at_call 45; refine hM2.out.mono ?_; rintro e w' ⟨rfl, hB2⟩; have x1 := (hB2.cell (p := ⟨w.heap.size, 0, none⟩) hlt).trans x1)
  all_goals
   clear r1
   go_wp2
   go_ret
   exact ⟨ret_int hE.out.symm, (Below.drew hB1).trans (hB2.mono hB1.size)⟩
end Go.Proofs.YtempicociampoaaGreatDoor
