/- SHA-256: the walk of Check (printed by gen_ixh.py). -/
import Derived.Test.YtomgjapjeckokaaIxG
namespace Go.Proofs.Ytomgjapjeckokaa
open Go.RowKit Go.Shelf Go.Lib

def chkS (bl : List UInt8) : List UInt8 := (shaS bl).take 4
theorem chkS_len (bl : List UInt8) : (chkS bl).length = 4 := by unfold chkS; rw [List.length_take, shaS_len]; rfl
theorem rowU4 {l : List UInt8} (h : l.length = 4) : ∃ a b c d : UInt8, l = [a, b, c, d] := by
  match l, h with
  | [a, b, c, d], _ => exact ⟨a, b, c, d, rfl⟩

set_option maxRecDepth 100000 in
set_option maxHeartbeats 1000000 in
theorem Check_any (bl : List UInt8) (a : Addr) (n cap : Nat) (w : World) (hs : Sl w 1 encU (.slice (some a) n cap) bl) (hb : bl.length ≤ 100000) :
    Calls Try.prog 59 #[.slice (some a) n cap] w fun e w' => e = .returned (.agg (rowU (chkS bl))) ∧ Below w.heap.size w w' := by
  obtain ⟨n₀, hn₀⟩ : ∃ n, w.heap.size = n := ⟨_, rfl⟩
  have g1 := World.alloc_heap_new w (.cells #[.int .u8 0, .int .u8 0, .int .u8 0, .int .u8 0] 96)
  rw [hn₀] at g1
  have s1 := (Kept.alloc 0 w (.cells #[.int .u8 0, .int .u8 0, .int .u8 0, .int .u8 0] 96)).sl hs
  have B1 : Below n₀ w (w.alloc (.cells #[.int .u8 0, .int .u8 0, .int .u8 0, .int .u8 0] 96)) := by rw [← hn₀]; exact (Below.refl _ w).alloc (Nat.le_refl _) _
  have cS := hid (Sum_any bl a n cap _ s1 hb)
  go_enter Try.func59, Try.ntmps59
  go_wp2_with (fail)
  refine cS.out.mono ?_
  rintro e w2 ⟨rfl, b2⟩
  have g2 := (Kept.of_below b2 0).same _ _ g1 (.inl rfl)
  have B2 := B1.trans (b2.mono (by have := B1.size; omega))
  obtain ⟨nd, hnd⟩ : ∃ n, w2.heap.size = n := ⟨_, rfl⟩
  have hnd2 : n₀ < nd := by have := (Array.getElem?_eq_some_iff.1 g2).1; omega
  have d1 := World.alloc_heap_new w2 (.cells #[.int .u8 0, .int .u8 0, .int .u8 0, .int .u8 0, .int .u8 0, .int .u8 0, .int .u8 0, .int .u8 0, .int .u8 0, .int .u8 0, .int .u8 0, .int .u8 0, .int .u8 0, .int .u8 0, .int .u8 0, .int .u8 0, .int .u8 0, .int .u8 0, .int .u8 0, .int .u8 0, .int .u8 0, .int .u8 0, .int .u8 0, .int .u8 0, .int .u8 0, .int .u8 0, .int .u8 0, .int .u8 0, .int .u8 0, .int .u8 0, .int .u8 0, .int .u8 0] 46)
  rw [hnd] at d1
  have g3 := (Kept.alloc 0 w2 (.cells #[.int .u8 0, .int .u8 0, .int .u8 0, .int .u8 0, .int .u8 0, .int .u8 0, .int .u8 0, .int .u8 0, .int .u8 0, .int .u8 0, .int .u8 0, .int .u8 0, .int .u8 0, .int .u8 0, .int .u8 0, .int .u8 0, .int .u8 0, .int .u8 0, .int .u8 0, .int .u8 0, .int .u8 0, .int .u8 0, .int .u8 0, .int .u8 0, .int .u8 0, .int .u8 0, .int .u8 0, .int .u8 0, .int .u8 0, .int .u8 0, .int .u8 0, .int .u8 0] 46)).same _ _ g2 (.inl rfl)
  have B3 := B2.alloc (by have := B2.size; omega) (.cells #[.int .u8 0, .int .u8 0, .int .u8 0, .int .u8 0, .int .u8 0, .int .u8 0, .int .u8 0, .int .u8 0, .int .u8 0, .int .u8 0, .int .u8 0, .int .u8 0, .int .u8 0, .int .u8 0, .int .u8 0, .int .u8 0, .int .u8 0, .int .u8 0, .int .u8 0, .int .u8 0, .int .u8 0, .int .u8 0, .int .u8 0, .int .u8 0, .int .u8 0, .int .u8 0, .int .u8 0, .int .u8 0, .int .u8 0, .int .u8 0, .int .u8 0, .int .u8 0] 46)
  obtain ⟨OB, hOB⟩ : ∃ l, shaS bl = l := ⟨_, rfl⟩
  have hO3 : OB.length = 32 := by rw [← hOB, shaS_len]
  have hi7 : (Try.prog.info? 46).map (·.size) = some (rowU OB).size := by rw [rowU_size, hO3]; kernel_rfl
  have ht7 : (w2.alloc (.cells #[.int .u8 0, .int .u8 0, .int .u8 0, .int .u8 0, .int .u8 0, .int .u8 0, .int .u8 0, .int .u8 0, .int .u8 0, .int .u8 0, .int .u8 0, .int .u8 0, .int .u8 0, .int .u8 0, .int .u8 0, .int .u8 0, .int .u8 0, .int .u8 0, .int .u8 0, .int .u8 0, .int .u8 0, .int .u8 0, .int .u8 0, .int .u8 0, .int .u8 0, .int .u8 0, .int .u8 0, .int .u8 0, .int .u8 0, .int .u8 0, .int .u8 0, .int .u8 0] 46)).there nd 0 (rowU OB).size := there_blk d1 (by rw [rowU_size, hO3]; rfl)
  have u1 := (Upd.refl d1).setCells (rowU OB).toList (by rw [Array.length_toList, rowU_size, hO3]; rfl)
  have hch : chkS bl = OB.take 4 := by unfold chkS; rw [hOB]
  rw [hOB]
  clear cS s1 g1 B1 b2 g2 B2 d1 hOB
  replace hch := hid hch
  go_upto_region 2 with (refine wpList_store_mid rfl 46 _ _ rfl nd 0 (rowU OB) rfl rfl ht7 hi7 (one_rowU _) ?_)
  try simp only [Act.put]
  obtain ⟨W3, hW3⟩ : ∃ W : World, W = (w2.alloc (.cells #[.int .u8 0, .int .u8 0, .int .u8 0, .int .u8 0, .int .u8 0, .int .u8 0, .int .u8 0, .int .u8 0, .int .u8 0, .int .u8 0, .int .u8 0, .int .u8 0, .int .u8 0, .int .u8 0, .int .u8 0, .int .u8 0, .int .u8 0, .int .u8 0, .int .u8 0, .int .u8 0, .int .u8 0, .int .u8 0, .int .u8 0, .int .u8 0, .int .u8 0, .int .u8 0, .int .u8 0, .int .u8 0, .int .u8 0, .int .u8 0, .int .u8 0, .int .u8 0] 46)).setCells nd 0 (rowU OB).toList := ⟨_, rfl⟩
  rw [← hW3] at u1 ⊢
  clear hW3
  have d2 : W3.heap[nd]? = some (.cells (rowU OB) 46 (0, 0)) := by have h9 := u1.here; rw [Array.toArray_toList] at h9; exact h9
  have g4 := (u1.off n₀ (by omega)).trans g3
  have B4 := u1.below B3 (by omega)
  obtain ⟨x0, x1, x2, x3, hx⟩ := rowU4 (l := OB.take 4) (by rw [List.length_take, hO3]; rfl)
  have hxi : ∀ i, i < 4 → OB[i]? = ([x0, x1, x2, x3] : List UInt8)[i]? := fun i hi => by rw [← hx, List.getElem?_take, if_pos hi]
  have c0 : W3.cell? ⟨nd, 0, none⟩ = some (.int .u8 x0.toNat) := cell_blk d2 (rowU_at (hxi 0 (by decide)))
  have c1 : W3.cell? ⟨nd, 1, none⟩ = some (.int .u8 x1.toNat) := cell_blk d2 (rowU_at (hxi 1 (by decide)))
  have c2 : W3.cell? ⟨nd, 2, none⟩ = some (.int .u8 x2.toNat) := cell_blk d2 (rowU_at (hxi 2 (by decide)))
  have c3 : W3.cell? ⟨nd, 3, none⟩ = some (.int .u8 x3.toNat) := cell_blk d2 (rowU_at (hxi 3 (by decide)))
  have hres : chkS bl = [x0, x1, x2, x3] := by rw [hch.out, hx]
  clear hxi hx d2 u1 g3 B3 hch ht7
  replace hres := hid hres
  have hAt : ∀ W, Sem.run Try.prog (Instr.arrayAt 96 (.slice (some ⟨nd, 0, none⟩) 4 32)) W = .ok (.pointer (some ⟨nd, 0, none⟩)) W := fun W => by
    unfold Instr.arrayAt
    go_simp
  have f0 : ∀ k, W3.frozen? ⟨n₀, k, none⟩ = false := fun k => frozen_blk g4
  have z0 : W3.cell? ⟨n₀, 0, none⟩ = some (.int .u8 0) := cell_blk (i := 0) g4 rfl
  have z1 : W3.cell? ⟨n₀, 1, none⟩ = some (.int .u8 0) := cell_blk (i := 1) g4 rfl
  have z2 : W3.cell? ⟨n₀, 2, none⟩ = some (.int .u8 0) := cell_blk (i := 2) g4 rfl
  have z3 : W3.cell? ⟨n₀, 3, none⟩ = some (.int .u8 0) := cell_blk (i := 3) g4 rfl
  have u5 := (Upd.refl g4).setCells (rowU [x0, x1, x2, x3]).toList rfl
  have B5 := u5.below B4 (Nat.le_refl _)
  have r5 := u5.here
  rw [Array.toArray_toList] at r5
  have eN : W3.setCells n₀ 0 (rowU [x0, x1, x2, x3]).toList = (((W3.setCell ⟨n₀, 0, none⟩ (.int .u8 x0.toNat)).setCell ⟨n₀, 1, none⟩ (.int .u8 x1.toNat)).setCell ⟨n₀, 2, none⟩ (.int .u8 x2.toNat)).setCell ⟨n₀, 3, none⟩ (.int .u8 x3.toNat) := rfl
  rw [eN] at r5 B5
  clear u5 eN
  replace r5 := hid r5
  replace B5 := hid B5
  go_wp2_with (fail)
  exact outRow (ty := 96) rfl r5.out rfl rfl (by kernel_rfl) (by rw [rowU_size]; kernel_rfl) ⟨by rw [hres.out], hn₀ ▸ B5.out⟩
end Go.Proofs.Ytomgjapjeckokaa
