/- The walk of chapter 30's wakes. -/
import Derived.Test.YtkmnmigpnbehaaaDoorScR
namespace Go.Proofs.YtkmnmigpnbehaaaDoor
open Go.RowKit Go.Shelf Go.Lib

theorem op8_inj {x y : OpB} (h : op8 x = op8 y) : x = y := by
  obtain ⟨a, b, c, d, s, e, f, g, i, j⟩ := x
  obtain ⟨a', b', c', d', s', e', f', g', i', j'⟩ := y
  unfold op8 at h
  rw [Op8.mk.injEq] at h
  dsimp only at h
  obtain ⟨rfl, rfl, rfl, rfl, h, rfl, rfl, rfl, rfl, rfl⟩ := h
  have : s = s' := by
    cases s; cases s'
    congr 1
    exact Array.toList_inj.1 h
  rw [this]
def opA : OpB := ⟨1, 0, 0, 0, ⟨#[97, 98]⟩, 60, 4, 1000, 50, 0⟩
def opP : OpB := ⟨3, 3, 0, 12, ⟨#[]⟩, 0, 0, 0, 0, 0⟩
theorem wk1 : lineS [112, 117, 98, 108, 105, 115, 104, 32, 48, 32, 54, 48, 32, 52, 32, 49, 48, 48, 48, 32, 53, 48, 32, 48, 32, 54, 49, 54, 50] = some (op8 opA) := by decide +kernel
theorem wk2 : lineS [112, 97, 103, 101, 32, 51, 32, 49, 50] = some (op8 opP) := by decide +kernel
theorem wk3 : lineS [108, 111, 103, 32] = none := by decide +kernel
theorem wk4 : textO (op8 ⟨5, 1, 2, 0, ⟨#[]⟩, 0, 0, 0, 0, 0⟩) = some [100, 105, 102, 102, 32, 49, 32, 50] := by decide +kernel

/-- Line's answer, told by its operation -/
theorem Line_val (s : ByteArray) (w : World) (hs : s.size ≤ 1000000) (hT : STabs w) (o : OpB) (n : Int) (h : (lineS s.data.toList = some (op8 o) ∧ n = 0) ∨ (lineS s.data.toList = none ∧ o = zOp ∧ n = 11)) :
    Calls Tryd.prog 7 #[.string s] w fun e w' => e = .returned (.tuple #[opV o, .int .i64 n]) ∧ Below w.heap.size w w' := by
  refine (Line_any s w hs hT).mono ?_
  rintro e w' ⟨y, rfl, hy, hB⟩
  rcases h with ⟨h1, rfl⟩ | ⟨h1, rfl, rfl⟩
  · rw [h1] at hy ⊢
    rw [op8_inj (y := o) hy]
    exact ⟨rfl, hB⟩
  · rw [h1] at hy ⊢
    rw [op8_inj (y := zOp) hy]
    exact ⟨rfl, hB⟩

set_option maxRecDepth 100000 in
set_option maxHeartbeats 2000000 in
theorem wakes_any (w : World) (hT : STabs w) : Calls Tryd.prog 6 #[] w fun e w' => e = .returned (.bool true) ∧ Below w.heap.size w w' := by
  have c1 := hid (Line_val ⟨#[112, 117, 98, 108, 105, 115, 104, 32, 48, 32, 54, 48, 32, 52, 32, 49, 48, 48, 48, 32, 53, 48, 32, 48, 32, 54, 49, 54, 50]⟩ w (by decide) hT opA 0 (.inl ⟨wk1, rfl⟩))
  unfold opA opV opC at c1
  dsimp only at c1
  go_enter Tryd.func6, Tryd.ntmps6
  go_wp2_with (fail)
  refine c1.out.mono ?_
  rintro e w1 ⟨rfl, b1⟩
  have a1 := World.alloc_heap_new w1 (.cells #[.int .i64 1, .int .i64 0, .int .i64 0, .int .i64 0, .string ⟨#[97, 98]⟩, .int .i64 60, .int .i64 4, .int .i64 1000, .int .i64 50, .int .i64 0] 25)
  have B1 := b1.alloc b1.size (.cells #[.int .i64 1, .int .i64 0, .int .i64 0, .int .i64 0, .string ⟨#[97, 98]⟩, .int .i64 60, .int .i64 4, .int .i64 1000, .int .i64 50, .int .i64 0] 25)
  have c2 := hid (Line_val ⟨#[112, 97, 103, 101, 32, 51, 32, 49, 50]⟩ (w1.alloc (.cells #[.int .i64 1, .int .i64 0, .int .i64 0, .int .i64 0, .string ⟨#[97, 98]⟩, .int .i64 60, .int .i64 4, .int .i64 1000, .int .i64 50, .int .i64 0] 25)) (by decide) (hT.below B1) opP 0 (.inl ⟨wk2, rfl⟩))
  unfold opP opV opC at c2
  dsimp only at c2
  clear c1 b1
  go_wp2_with (fail)
  refine c2.out.mono ?_
  rintro e w2 ⟨rfl, b2⟩
  obtain ⟨m1, hm1⟩ : ∃ n, w1.heap.size = n := ⟨_, rfl⟩
  rw [hm1] at a1 ⊢
  have B2 := B1.trans (b2.mono B1.size)
  have k2 := Kept.of_below b2 0
  have a2 := k2.same _ _ a1 (.inl rfl)
  replace a2 := (Kept.alloc 0 w2 (.cells #[.int .i64 3, .int .i64 3, .int .i64 0, .int .i64 12, .string ⟨#[]⟩, .int .i64 0, .int .i64 0, .int .i64 0, .int .i64 0, .int .i64 0] 25)).same _ _ a2 (.inl rfl)
  have p2 := World.alloc_heap_new w2 (.cells #[.int .i64 3, .int .i64 3, .int .i64 0, .int .i64 12, .string ⟨#[]⟩, .int .i64 0, .int .i64 0, .int .i64 0, .int .i64 0, .int .i64 0] 25)
  replace B2 := B2.alloc B2.size (.cells #[.int .i64 3, .int .i64 3, .int .i64 0, .int .i64 12, .string ⟨#[]⟩, .int .i64 0, .int .i64 0, .int .i64 0, .int .i64 0, .int .i64 0] 25)
  have c3 := hid (Line_val ⟨#[108, 111, 103, 32]⟩ (w2.alloc (.cells #[.int .i64 3, .int .i64 3, .int .i64 0, .int .i64 12, .string ⟨#[]⟩, .int .i64 0, .int .i64 0, .int .i64 0, .int .i64 0, .int .i64 0] 25)) (by decide) (hT.below B2) zOp 11 (.inr ⟨wk3, rfl, rfl⟩))
  unfold zOp opV opC at c3
  dsimp only at c3
  clear c2 b2 k2 a1 B1
  go_wp2_with (fail)
  refine c3.out.mono ?_
  rintro e w3 ⟨rfl, b3⟩
  obtain ⟨m2, hm2⟩ : ∃ n, w2.heap.size = n := ⟨_, rfl⟩
  rw [hm2] at p2 ⊢
  have B3 := B2.trans (b3.mono B2.size)
  have k3 := Kept.of_below b3 0
  have a3 := k3.same _ _ a2 (.inl rfl)
  have p3 := k3.same _ _ p2 (.inl rfl)
  replace a3 := (Kept.alloc 0 w3 (.cells #[.int .i64 0, .int .i64 0, .int .i64 0, .int .i64 0, .string ⟨#[]⟩, .int .i64 0, .int .i64 0, .int .i64 0, .int .i64 0, .int .i64 0] 25)).same _ _ a3 (.inl rfl)
  replace p3 := (Kept.alloc 0 w3 (.cells #[.int .i64 0, .int .i64 0, .int .i64 0, .int .i64 0, .string ⟨#[]⟩, .int .i64 0, .int .i64 0, .int .i64 0, .int .i64 0, .int .i64 0] 25)).same _ _ p3 (.inl rfl)
  replace B3 := B3.alloc B3.size (.cells #[.int .i64 0, .int .i64 0, .int .i64 0, .int .i64 0, .string ⟨#[]⟩, .int .i64 0, .int .i64 0, .int .i64 0, .int .i64 0, .int .i64 0] 25)
  have c4 := hid (Text_any ⟨5, 1, 2, 0, ⟨#[]⟩, 0, 0, 0, 0, 0⟩ (w3.alloc (.cells #[.int .i64 0, .int .i64 0, .int .i64 0, .int .i64 0, .string ⟨#[]⟩, .int .i64 0, .int .i64 0, .int .i64 0, .int .i64 0, .int .i64 0] 25)) (by unfold OkO; decide) (by decide) (hT.below B3))
  unfold TextE opV opC at c4
  rw [wk4] at c4
  dsimp only [Option.getD_some, Option.isSome_some, if_true] at c4
  clear c3 b3 k3 a2 p2 B2
  go_wp2_with (fail)
  refine c4.out.mono ?_
  rintro e w4 ⟨rfl, b4⟩
  have B4 := B3.trans (b4.mono B3.size)
  have k4 := Kept.of_below b4 0
  have a4 := k4.same _ _ a3 (.inl rfl)
  have p4 := k4.same _ _ p3 (.inl rfl)
  have x0 : w4.cell? ⟨m1, 0, none⟩ = some (.int .i64 1) := cell_blk (i := 0) a4 rfl
  have x1 : w4.cell? ⟨m1, 1, none⟩ = some (.int .i64 0) := cell_blk (i := 1) a4 rfl
  have x2 : w4.cell? ⟨m1, 2, none⟩ = some (.int .i64 0) := cell_blk (i := 2) a4 rfl
  have x3 : w4.cell? ⟨m1, 3, none⟩ = some (.int .i64 0) := cell_blk (i := 3) a4 rfl
  have x4 : w4.cell? ⟨m1, 4, none⟩ = some (.string ⟨#[97, 98]⟩) := cell_blk (i := 4) a4 rfl
  have x5 : w4.cell? ⟨m1, 5, none⟩ = some (.int .i64 60) := cell_blk (i := 5) a4 rfl
  have x6 : w4.cell? ⟨m1, 6, none⟩ = some (.int .i64 4) := cell_blk (i := 6) a4 rfl
  have x7 : w4.cell? ⟨m1, 7, none⟩ = some (.int .i64 1000) := cell_blk (i := 7) a4 rfl
  have x8 : w4.cell? ⟨m1, 8, none⟩ = some (.int .i64 50) := cell_blk (i := 8) a4 rfl
  have x9 : w4.cell? ⟨m1, 9, none⟩ = some (.int .i64 0) := cell_blk (i := 9) a4 rfl
  have y0 : w4.cell? ⟨m2, 0, none⟩ = some (.int .i64 3) := cell_blk (i := 0) p4 rfl
  have y1 : w4.cell? ⟨m2, 1, none⟩ = some (.int .i64 3) := cell_blk (i := 1) p4 rfl
  have y2 : w4.cell? ⟨m2, 2, none⟩ = some (.int .i64 0) := cell_blk (i := 2) p4 rfl
  have y3 : w4.cell? ⟨m2, 3, none⟩ = some (.int .i64 12) := cell_blk (i := 3) p4 rfl
  have y4 : w4.cell? ⟨m2, 4, none⟩ = some (.string ⟨#[]⟩) := cell_blk (i := 4) p4 rfl
  have y5 : w4.cell? ⟨m2, 5, none⟩ = some (.int .i64 0) := cell_blk (i := 5) p4 rfl
  have y6 : w4.cell? ⟨m2, 6, none⟩ = some (.int .i64 0) := cell_blk (i := 6) p4 rfl
  have y7 : w4.cell? ⟨m2, 7, none⟩ = some (.int .i64 0) := cell_blk (i := 7) p4 rfl
  have y8 : w4.cell? ⟨m2, 8, none⟩ = some (.int .i64 0) := cell_blk (i := 8) p4 rfl
  have y9 : w4.cell? ⟨m2, 9, none⟩ = some (.int .i64 0) := cell_blk (i := 9) p4 rfl
  have s1 := hid (Same_any opA opA w4)
  have s2 := fun W => hid (Same_any opA opP W)
  rw [show sameB opA opA = true by decide +kernel] at s1
  simp only [show sameB opA opP = false by decide +kernel] at s2
  unfold opA opV opC at s1 s2
  unfold opP at s2
  dsimp only at s1 s2
  clear c4 b4 k4 a3 p3 B3 hm1 hm2
  simp only [if_true]
  go_wp2_with (fail)
  refine s1.out.mono ?_
  rintro e w5 ⟨rfl, b5⟩
  have B5 := B4.trans (b5.mono B4.size)
  have k5 := Kept.of_below b5 0
  have a5 := k5.same _ _ a4 (.inl rfl)
  have p5 := k5.same _ _ p4 (.inl rfl)
  have u0 : w5.cell? ⟨m1, 0, none⟩ = some (.int .i64 1) := cell_blk (i := 0) a5 rfl
  have u1 : w5.cell? ⟨m1, 1, none⟩ = some (.int .i64 0) := cell_blk (i := 1) a5 rfl
  have u2 : w5.cell? ⟨m1, 2, none⟩ = some (.int .i64 0) := cell_blk (i := 2) a5 rfl
  have u3 : w5.cell? ⟨m1, 3, none⟩ = some (.int .i64 0) := cell_blk (i := 3) a5 rfl
  have u4 : w5.cell? ⟨m1, 4, none⟩ = some (.string ⟨#[97, 98]⟩) := cell_blk (i := 4) a5 rfl
  have u5 : w5.cell? ⟨m1, 5, none⟩ = some (.int .i64 60) := cell_blk (i := 5) a5 rfl
  have u6 : w5.cell? ⟨m1, 6, none⟩ = some (.int .i64 4) := cell_blk (i := 6) a5 rfl
  have u7 : w5.cell? ⟨m1, 7, none⟩ = some (.int .i64 1000) := cell_blk (i := 7) a5 rfl
  have u8 : w5.cell? ⟨m1, 8, none⟩ = some (.int .i64 50) := cell_blk (i := 8) a5 rfl
  have u9 : w5.cell? ⟨m1, 9, none⟩ = some (.int .i64 0) := cell_blk (i := 9) a5 rfl
  have v0 : w5.cell? ⟨m2, 0, none⟩ = some (.int .i64 3) := cell_blk (i := 0) p5 rfl
  have v1 : w5.cell? ⟨m2, 1, none⟩ = some (.int .i64 3) := cell_blk (i := 1) p5 rfl
  have v2 : w5.cell? ⟨m2, 2, none⟩ = some (.int .i64 0) := cell_blk (i := 2) p5 rfl
  have v3 : w5.cell? ⟨m2, 3, none⟩ = some (.int .i64 12) := cell_blk (i := 3) p5 rfl
  have v4 : w5.cell? ⟨m2, 4, none⟩ = some (.string ⟨#[]⟩) := cell_blk (i := 4) p5 rfl
  have v5 : w5.cell? ⟨m2, 5, none⟩ = some (.int .i64 0) := cell_blk (i := 5) p5 rfl
  have v6 : w5.cell? ⟨m2, 6, none⟩ = some (.int .i64 0) := cell_blk (i := 6) p5 rfl
  have v7 : w5.cell? ⟨m2, 7, none⟩ = some (.int .i64 0) := cell_blk (i := 7) p5 rfl
  have v8 : w5.cell? ⟨m2, 8, none⟩ = some (.int .i64 0) := cell_blk (i := 8) p5 rfl
  have v9 : w5.cell? ⟨m2, 9, none⟩ = some (.int .i64 0) := cell_blk (i := 9) p5 rfl
  go_wp2_with (fail)
  refine (s2 _).out.mono ?_
  rintro e w6 ⟨rfl, b6⟩
  have B6 := B5.trans (b6.mono B5.size)
  go_wp2_with (fail)
  go_ret
  exact ⟨rfl, B6⟩
end Go.Proofs.YtkmnmigpnbehaaaDoor
