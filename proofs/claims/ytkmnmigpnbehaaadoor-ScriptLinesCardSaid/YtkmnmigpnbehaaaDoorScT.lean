/- The walk of ScriptBack. -/
import Derived.Test.YtkmnmigpnbehaaaDoorScS
namespace Go.Proofs.YtkmnmigpnbehaaaDoor
open Go.RowKit Go.Shelf Go.Lib

theorem textO_some {x : Op8} {T : L8} (h : textO x = some T) : ∃ f ∈ formsL, f.1 = x.kind ∧ lineS (spellS f x) = some x ∧ T = spellS f x := by
  obtain ⟨f, hf, h2⟩ := List.exists_of_findSome?_eq_some h
  unfold textF at h2
  split at h2
  · rename_i hc
    exact ⟨f, hf, hc.1, hc.2, (Option.some.inj h2).symm⟩
  · cases h2
theorem textO_of {x : Op8} {f : Int × L8 × L8} (hf : f ∈ formsL) (hk : f.1 = x.kind) (hl : lineS (spellS f x) = some x) : textO x = some (spellS f x) := by
  have e1 : textF x f = some (spellS f x) := by unfold textF; rw [if_pos ⟨hk, hl⟩]
  cases e : textO x with
  | none => rw [List.findSome?_eq_none_iff.1 e f hf] at e1; cases e1
  | some T =>
    obtain ⟨g, hg, hgk, -, rfl⟩ := textO_some e
    rw [forms_apart g hg f hf (.inl (hgk.trans hk.symm))]
theorem fits_ok {f : Int × L8 × L8} {x : Op8} (h : fits f x) : OkO x ∧ x.src.length ≤ 240 := by
  obtain ⟨-, h2, h3, h4, h5⟩ := h
  constructor
  · intro c hc
    by_cases hm : c ∈ f.2.2
    · have := h2 c hm hc; omega
    · rw [h4 c hc hm]; omega
  · by_cases hm : (88 : UInt8) ∈ f.2.2
    · exact h3 hm
    · rw [h5 hm]; simp
theorem line_back {s : L8} {y : Op8} (h : lineS s = some y) : OkO y ∧ y.src.length ≤ 240 ∧ textO y = some s := by
  obtain ⟨f, hf, hs, hfit⟩ := spell_line h
  obtain ⟨h1, h2⟩ := fits_ok hfit
  refine ⟨h1, h2, ?_⟩
  have := textO_of hf hfit.1.symm (by rw [hs]; exact h)
  rwa [hs] at this

def ofO (z : Op8) : OpB := ⟨z.kind, z.rev, z.other, z.n, ⟨z.src.toArray⟩, z.width, z.height, z.tol, z.cost, z.indent⟩
theorem ofO_op (z : Op8) : op8 (ofO z) = z := by
  unfold op8 ofO
  dsimp only
theorem toB_self (s : ByteArray) : (⟨s.data.toList.toArray⟩ : ByteArray) = s := by cases s; simp

set_option maxRecDepth 100000 in
set_option maxHeartbeats 2000000 in
theorem ScriptBack_any (s : ByteArray) (x : OpB) (w : World) (hx : OkO (op8 x)) (hT : STabs w) :
    Calls Tryd.prog 4 #[.string s, opV x] w fun e w' => e = .returned (.bool true) ∧ Below w.heap.size w w' := by
  have a1 := World.alloc_heap_new w (.cells (opC x) 25)
  have B1 : Below w.heap.size w (w.alloc (.cells (opC x) 25)) := (Below.refl _ w).alloc (Nat.le_refl _) _
  have x4 : (w.alloc (.cells (opC x) 25)).cell? ⟨w.heap.size, 4, none⟩ = some (.string x.s) := cell_blk (i := 4) a1 rfl
  have cW := hid (wakes_any _ (hT.below B1))
  unfold opV
  by_cases hg : 2000 < s.size ∨ 500 < x.s.size
  · by_cases h1 : (2000 : Int) < s.size
    · go_enter Tryd.func4, Tryd.ntmps4
      go_wp2_with (fail)
      refine cW.out.mono ?_
      rintro e u2 ⟨rfl, d2⟩
      go_wp2_with (fail)
      go_ret
      exact ⟨rfl, B1.trans (d2.mono B1.size)⟩
    · have h2 : (500 : Int) < x.s.size := by omega
      clear hg
      go_enter Tryd.func4, Tryd.ntmps4
      go_wp2_with (fail)
      refine cW.out.mono ?_
      rintro e u2 ⟨rfl, d2⟩
      go_wp2_with (fail)
      go_ret
      exact ⟨rfl, B1.trans (d2.mono B1.size)⟩
  · have h1 : ¬ (2000 : Int) < s.size := by omega
    have h2 : ¬ (500 : Int) < x.s.size := by omega
    have hs : s.size ≤ 2000 := by omega
    have hxs : x.s.size ≤ 500 := by omega
    have cT := hid (Text_any x _ hx (by omega) (hT.below B1))
    clear hg cW x4
    have x0 : (w.alloc (.cells (opC x) 25)).cell? ⟨w.heap.size, 0, none⟩ = some (.int .i64 x.k) := cell_blk (i := 0) a1 rfl
    have x1 : (w.alloc (.cells (opC x) 25)).cell? ⟨w.heap.size, 1, none⟩ = some (.int .i64 x.r) := cell_blk (i := 1) a1 rfl
    have x2 : (w.alloc (.cells (opC x) 25)).cell? ⟨w.heap.size, 2, none⟩ = some (.int .i64 x.o) := cell_blk (i := 2) a1 rfl
    have x3 : (w.alloc (.cells (opC x) 25)).cell? ⟨w.heap.size, 3, none⟩ = some (.int .i64 x.n) := cell_blk (i := 3) a1 rfl
    have x4 : (w.alloc (.cells (opC x) 25)).cell? ⟨w.heap.size, 4, none⟩ = some (.string x.s) := cell_blk (i := 4) a1 rfl
    have x5 : (w.alloc (.cells (opC x) 25)).cell? ⟨w.heap.size, 5, none⟩ = some (.int .i64 x.w) := cell_blk (i := 5) a1 rfl
    have x6 : (w.alloc (.cells (opC x) 25)).cell? ⟨w.heap.size, 6, none⟩ = some (.int .i64 x.h) := cell_blk (i := 6) a1 rfl
    have x7 : (w.alloc (.cells (opC x) 25)).cell? ⟨w.heap.size, 7, none⟩ = some (.int .i64 x.t) := cell_blk (i := 7) a1 rfl
    have x8 : (w.alloc (.cells (opC x) 25)).cell? ⟨w.heap.size, 8, none⟩ = some (.int .i64 x.c) := cell_blk (i := 8) a1 rfl
    have x9 : (w.alloc (.cells (opC x) 25)).cell? ⟨w.heap.size, 9, none⟩ = some (.int .i64 x.i) := cell_blk (i := 9) a1 rfl
    unfold TextE at cT
    cases htx : textO (op8 x) with
    | none =>
      rw [htx] at cT
      replace htx := hid htx
      dsimp only [Option.getD_none, Option.isSome_none] at cT
      simp only [Bool.false_eq_true, if_false] at cT
      go_enter Tryd.func4, Tryd.ntmps4
      go_wp2_with (fail)
      refine cT.out.mono ?_
      rintro e w1 ⟨rfl, b1⟩
      have B2 := B1.trans (b1.mono B1.size)
      clear cT
      cases hl : lineS s.data.toList with
      | none =>
        have cL := hid (Line_val s w1 (by omega) (hT.below B2) zOp 11 (.inr ⟨hl, rfl, rfl⟩))
        replace hl := hid hl
        go_wp2_with (fail)
        refine cL.out.mono ?_
        rintro e u1 ⟨rfl, d1⟩
        have D1 := B2.trans (d1.mono B2.size)
        have D2 := D1.alloc D1.size (.cells (opC zOp) 25)
        have ry := World.alloc_heap_new u1 (.cells (opC zOp) 25)
        have cV := hid (wakes_any _ (hT.below D2))
        unfold zOp opC at ry cV D2
        try unfold zOp
        unfold opV opC
        dsimp only at ry cV D2 ⊢
        have yy0 : (u1.alloc (.cells #[.int .i64 0, .int .i64 0, .int .i64 0, .int .i64 0, .string ⟨#[]⟩, .int .i64 0, .int .i64 0, .int .i64 0, .int .i64 0, .int .i64 0] 25)).cell? ⟨u1.heap.size, 0, none⟩ = some (.int .i64 0) := cell_blk (i := 0) ry rfl
        have yy1 : (u1.alloc (.cells #[.int .i64 0, .int .i64 0, .int .i64 0, .int .i64 0, .string ⟨#[]⟩, .int .i64 0, .int .i64 0, .int .i64 0, .int .i64 0, .int .i64 0] 25)).cell? ⟨u1.heap.size, 1, none⟩ = some (.int .i64 0) := cell_blk (i := 1) ry rfl
        have yy2 : (u1.alloc (.cells #[.int .i64 0, .int .i64 0, .int .i64 0, .int .i64 0, .string ⟨#[]⟩, .int .i64 0, .int .i64 0, .int .i64 0, .int .i64 0, .int .i64 0] 25)).cell? ⟨u1.heap.size, 2, none⟩ = some (.int .i64 0) := cell_blk (i := 2) ry rfl
        have yy3 : (u1.alloc (.cells #[.int .i64 0, .int .i64 0, .int .i64 0, .int .i64 0, .string ⟨#[]⟩, .int .i64 0, .int .i64 0, .int .i64 0, .int .i64 0, .int .i64 0] 25)).cell? ⟨u1.heap.size, 3, none⟩ = some (.int .i64 0) := cell_blk (i := 3) ry rfl
        have yy4 : (u1.alloc (.cells #[.int .i64 0, .int .i64 0, .int .i64 0, .int .i64 0, .string ⟨#[]⟩, .int .i64 0, .int .i64 0, .int .i64 0, .int .i64 0, .int .i64 0] 25)).cell? ⟨u1.heap.size, 4, none⟩ = some (.string ⟨#[]⟩) := cell_blk (i := 4) ry rfl
        have yy5 : (u1.alloc (.cells #[.int .i64 0, .int .i64 0, .int .i64 0, .int .i64 0, .string ⟨#[]⟩, .int .i64 0, .int .i64 0, .int .i64 0, .int .i64 0, .int .i64 0] 25)).cell? ⟨u1.heap.size, 5, none⟩ = some (.int .i64 0) := cell_blk (i := 5) ry rfl
        have yy6 : (u1.alloc (.cells #[.int .i64 0, .int .i64 0, .int .i64 0, .int .i64 0, .string ⟨#[]⟩, .int .i64 0, .int .i64 0, .int .i64 0, .int .i64 0, .int .i64 0] 25)).cell? ⟨u1.heap.size, 6, none⟩ = some (.int .i64 0) := cell_blk (i := 6) ry rfl
        have yy7 : (u1.alloc (.cells #[.int .i64 0, .int .i64 0, .int .i64 0, .int .i64 0, .string ⟨#[]⟩, .int .i64 0, .int .i64 0, .int .i64 0, .int .i64 0, .int .i64 0] 25)).cell? ⟨u1.heap.size, 7, none⟩ = some (.int .i64 0) := cell_blk (i := 7) ry rfl
        have yy8 : (u1.alloc (.cells #[.int .i64 0, .int .i64 0, .int .i64 0, .int .i64 0, .string ⟨#[]⟩, .int .i64 0, .int .i64 0, .int .i64 0, .int .i64 0, .int .i64 0] 25)).cell? ⟨u1.heap.size, 8, none⟩ = some (.int .i64 0) := cell_blk (i := 8) ry rfl
        have yy9 : (u1.alloc (.cells #[.int .i64 0, .int .i64 0, .int .i64 0, .int .i64 0, .string ⟨#[]⟩, .int .i64 0, .int .i64 0, .int .i64 0, .int .i64 0, .int .i64 0] 25)).cell? ⟨u1.heap.size, 9, none⟩ = some (.int .i64 0) := cell_blk (i := 9) ry rfl
        clear cL
        go_wp2_with (fail)
        refine cV.out.mono ?_
        rintro e u2 ⟨rfl, d2⟩
        go_wp2_with (fail)
        go_ret
        exact ⟨rfl, D2.trans (d2.mono D2.size)⟩
      | some z =>
        obtain ⟨hk1, hk2, hk3⟩ := line_back hl
        obtain ⟨y, hy⟩ : ∃ y : OpB, op8 y = z := ⟨ofO z, ofO_op z⟩
        have cL := hid (Line_val s w1 (by omega) (hT.below B2) y 0 (.inl ⟨by rw [hl, hy], rfl⟩))
        replace hl := hid hl
        go_wp2_with (fail)
        refine cL.out.mono ?_
        rintro e u1 ⟨rfl, d1⟩
        have D1 := B2.trans (d1.mono B2.size)
        have D2 := D1.alloc D1.size (.cells (opC y) 25)
        have ry := World.alloc_heap_new u1 (.cells (opC y) 25)
        have hys : y.s.size ≤ 240 := by
          have : (op8 y).src.length = y.s.size := size8 y.s
          rw [← this, hy]; exact hk2
        have cT2 := hid (Text_any y _ (by rw [hy]; exact hk1) (by omega) (hT.below D2))
        unfold TextE at cT2
        rw [hy, hk3] at cT2
        simp only [Option.getD_some, Option.isSome_some, if_true, toB_self] at cT2
        clear cL
        obtain ⟨yk, yr, yo, yn, ys, yw, yh, yt, yc, yi⟩ := y
        unfold opV opC at *
        dsimp only at ry cT2 D2 ⊢
        have yy0 : (u1.alloc (.cells #[.int .i64 yk, .int .i64 yr, .int .i64 yo, .int .i64 yn, .string ys, .int .i64 yw, .int .i64 yh, .int .i64 yt, .int .i64 yc, .int .i64 yi] 25)).cell? ⟨u1.heap.size, 0, none⟩ = some (.int .i64 yk) := cell_blk (i := 0) ry rfl
        have yy1 : (u1.alloc (.cells #[.int .i64 yk, .int .i64 yr, .int .i64 yo, .int .i64 yn, .string ys, .int .i64 yw, .int .i64 yh, .int .i64 yt, .int .i64 yc, .int .i64 yi] 25)).cell? ⟨u1.heap.size, 1, none⟩ = some (.int .i64 yr) := cell_blk (i := 1) ry rfl
        have yy2 : (u1.alloc (.cells #[.int .i64 yk, .int .i64 yr, .int .i64 yo, .int .i64 yn, .string ys, .int .i64 yw, .int .i64 yh, .int .i64 yt, .int .i64 yc, .int .i64 yi] 25)).cell? ⟨u1.heap.size, 2, none⟩ = some (.int .i64 yo) := cell_blk (i := 2) ry rfl
        have yy3 : (u1.alloc (.cells #[.int .i64 yk, .int .i64 yr, .int .i64 yo, .int .i64 yn, .string ys, .int .i64 yw, .int .i64 yh, .int .i64 yt, .int .i64 yc, .int .i64 yi] 25)).cell? ⟨u1.heap.size, 3, none⟩ = some (.int .i64 yn) := cell_blk (i := 3) ry rfl
        have yy4 : (u1.alloc (.cells #[.int .i64 yk, .int .i64 yr, .int .i64 yo, .int .i64 yn, .string ys, .int .i64 yw, .int .i64 yh, .int .i64 yt, .int .i64 yc, .int .i64 yi] 25)).cell? ⟨u1.heap.size, 4, none⟩ = some (.string ys) := cell_blk (i := 4) ry rfl
        have yy5 : (u1.alloc (.cells #[.int .i64 yk, .int .i64 yr, .int .i64 yo, .int .i64 yn, .string ys, .int .i64 yw, .int .i64 yh, .int .i64 yt, .int .i64 yc, .int .i64 yi] 25)).cell? ⟨u1.heap.size, 5, none⟩ = some (.int .i64 yw) := cell_blk (i := 5) ry rfl
        have yy6 : (u1.alloc (.cells #[.int .i64 yk, .int .i64 yr, .int .i64 yo, .int .i64 yn, .string ys, .int .i64 yw, .int .i64 yh, .int .i64 yt, .int .i64 yc, .int .i64 yi] 25)).cell? ⟨u1.heap.size, 6, none⟩ = some (.int .i64 yh) := cell_blk (i := 6) ry rfl
        have yy7 : (u1.alloc (.cells #[.int .i64 yk, .int .i64 yr, .int .i64 yo, .int .i64 yn, .string ys, .int .i64 yw, .int .i64 yh, .int .i64 yt, .int .i64 yc, .int .i64 yi] 25)).cell? ⟨u1.heap.size, 7, none⟩ = some (.int .i64 yt) := cell_blk (i := 7) ry rfl
        have yy8 : (u1.alloc (.cells #[.int .i64 yk, .int .i64 yr, .int .i64 yo, .int .i64 yn, .string ys, .int .i64 yw, .int .i64 yh, .int .i64 yt, .int .i64 yc, .int .i64 yi] 25)).cell? ⟨u1.heap.size, 8, none⟩ = some (.int .i64 yc) := cell_blk (i := 8) ry rfl
        have yy9 : (u1.alloc (.cells #[.int .i64 yk, .int .i64 yr, .int .i64 yo, .int .i64 yn, .string ys, .int .i64 yw, .int .i64 yh, .int .i64 yt, .int .i64 yc, .int .i64 yi] 25)).cell? ⟨u1.heap.size, 9, none⟩ = some (.int .i64 yi) := cell_blk (i := 9) ry rfl
        replace hk3 := hid hk3
        replace hy := hid hy
        go_wp2_with (fail)
        refine cT2.out.mono ?_
        rintro e u2 ⟨rfl, d2⟩
        have D3 := D2.trans (d2.mono D2.size)
        have cV := hid (wakes_any _ (hT.below D3))
        go_wp2_with (fail)
        refine cV.out.mono ?_
        rintro e u3 ⟨rfl, d3⟩
        go_wp2_with (fail)
        go_ret
        exact ⟨rfl, D3.trans (d3.mono D3.size)⟩
    | some T =>
      rw [htx] at cT
      obtain ⟨f, hf, hfk, hfl, hfT⟩ := textO_some htx
      have hTl := spell_len hf hx
      rw [← hfT, show (op8 x).src.length = x.s.size from size8 x.s] at hTl
      replace htx := hid htx
      dsimp only [Option.getD_some, Option.isSome_some] at cT
      simp only [if_true] at cT
      obtain ⟨tB, htB⟩ : ∃ b : ByteArray, (⟨T.toArray⟩ : ByteArray) = b := ⟨_, rfl⟩
      have htl : tB.data.toList = T := by rw [← htB]
      have htz : tB.size = T.length := by rw [← htl, size8]
      rw [htB] at cT
      have q1 : lineS tB.data.toList = some (op8 x) := by rw [htl, hfT]; exact hfl
      have q2 : lineS (tB ++ (⟨#[32]⟩ : ByteArray)).data.toList = none := by
        have e : (tB ++ (⟨#[32]⟩ : ByteArray)).data.toList = spellS f (op8 x) ++ 32 :: [] := by rw [ByteArray.data_append, Array.toList_append, htl, hfT]
        rw [e]; exact line_more hf _ _
      have q3 : lineS ((⟨#[32]⟩ : ByteArray) ++ tB).data.toList = none := by
        have e : ((⟨#[32]⟩ : ByteArray) ++ tB).data.toList = 32 :: T := by rw [ByteArray.data_append, Array.toList_append, htl]; rfl
        rw [e]; exact line_blank
      have q4 : lineS (tB ++ (⟨#[32, 49, 32, 49, 49]⟩ : ByteArray)).data.toList = none := by
        have e : (tB ++ (⟨#[32, 49, 32, 49, 49]⟩ : ByteArray)).data.toList = spellS f (op8 x) ++ 32 :: [49, 32, 49, 49] := by rw [ByteArray.data_append, Array.toList_append, htl, hfT]
        rw [e]; exact line_more hf _ _
      have z2 : (tB ++ (⟨#[32]⟩ : ByteArray)).size = tB.size + 1 := ByteArray.size_append
      have z3 : ((⟨#[32]⟩ : ByteArray) ++ tB).size = 1 + tB.size := ByteArray.size_append
      have z4 : (tB ++ (⟨#[32, 49, 32, 49, 49]⟩ : ByteArray)).size = tB.size + 5 := ByteArray.size_append
      have htzI : (tB.size : Int) ≤ 8176 := by omega
      replace hf := hid hf
      replace hfk := hid hfk
      replace hfl := hid hfl
      replace hfT := hid hfT
      replace htB := hid htB
      replace htl := hid htl
      replace q1 := hid q1
      replace q2 := hid q2
      replace q3 := hid q3
      replace q4 := hid q4
      go_enter Tryd.func4, Tryd.ntmps4
      go_wp2_with (fail)
      refine cT.out.mono ?_
      rintro e w1 ⟨rfl, b1⟩
      have B2 := B1.trans (b1.mono B1.size)
      have k1 := Kept.of_below b1 0
      replace a1 := k1.same _ _ a1 (.inl rfl)
      have c1 := hid (Line_val tB w1 (by omega) (hT.below B2) x 0 (.inl ⟨q1.out, rfl⟩))
      clear cT k1 b1
      go_wp2_with (fail)
      refine c1.out.mono ?_
      rintro e w2 ⟨rfl, b2⟩
      obtain ⟨m7, hm7⟩ : ∃ n, w2.heap.size = n := ⟨_, rfl⟩
      have B3 := (B2.trans (b2.mono B2.size)).alloc (B2.trans (b2.mono B2.size)).size (.cells (opC x) 25)
      replace a1 := (Kept.of_below b2 0).same _ _ a1 (.inl rfl)
      replace a1 := (Kept.alloc 0 w2 (.cells (opC x) 25)).same _ _ a1 (.inl rfl)
      have p7 := World.alloc_heap_new w2 (.cells (opC x) 25)
      have c2 := hid (Line_val _ (w2.alloc (.cells (opC x) 25)) (show (tB ++ (⟨#[32]⟩ : ByteArray)).size ≤ 1000000 by omega) (hT.below B3) zOp 11 (.inr ⟨q2.out, rfl, rfl⟩))
      rw [hm7] at p7
      clear c1 b2 B2
      unfold opV opC
      unfold opC at c2
      go_wp2_with (fail)
      refine c2.out.mono ?_
      rintro e w3 ⟨rfl, b3⟩
      have B4 := (B3.trans (b3.mono B3.size)).alloc (B3.trans (b3.mono B3.size)).size (.cells (opC zOp) 25)
      replace a1 := (Kept.of_below b3 0).same _ _ a1 (.inl rfl)
      replace a1 := (Kept.alloc 0 w3 (.cells (opC zOp) 25)).same _ _ a1 (.inl rfl)
      replace p7 := (Kept.of_below b3 0).same _ _ p7 (.inl rfl)
      replace p7 := (Kept.alloc 0 w3 (.cells (opC zOp) 25)).same _ _ p7 (.inl rfl)
      have c3 := hid (Line_val _ (w3.alloc (.cells (opC zOp) 25)) (show ((⟨#[32]⟩ : ByteArray) ++ tB).size ≤ 1000000 by omega) (hT.below B4) zOp 11 (.inr ⟨q3.out, rfl, rfl⟩))
      clear c2 b3 B3 hm7
      try unfold zOp
      unfold opV opC
      unfold zOp opC at c3
      dsimp only at c3 ⊢
      go_wp2_with (fail)
      refine c3.out.mono ?_
      rintro e w4 ⟨rfl, b4⟩
      have B5 := (B4.trans (b4.mono B4.size)).alloc (B4.trans (b4.mono B4.size)).size (.cells (opC zOp) 25)
      replace a1 := (Kept.of_below b4 0).same _ _ a1 (.inl rfl)
      replace a1 := (Kept.alloc 0 w4 (.cells (opC zOp) 25)).same _ _ a1 (.inl rfl)
      replace p7 := (Kept.of_below b4 0).same _ _ p7 (.inl rfl)
      replace p7 := (Kept.alloc 0 w4 (.cells (opC zOp) 25)).same _ _ p7 (.inl rfl)
      have c4 := hid (Line_val _ (w4.alloc (.cells (opC zOp) 25)) (show (tB ++ (⟨#[32, 49, 32, 49, 49]⟩ : ByteArray)).size ≤ 1000000 by omega) (hT.below B5) zOp 11 (.inr ⟨q4.out, rfl, rfl⟩))
      clear c3 b4 B4
      try unfold zOp
      unfold opV opC
      try unfold zOp at c4
      unfold opC at c4
      dsimp only at c4 ⊢
      go_wp2_with (fail)
      refine c4.out.mono ?_
      rintro e w5 ⟨rfl, b5⟩
      have B6 := (B5.trans (b5.mono B5.size)).alloc (B5.trans (b5.mono B5.size)).size (.cells (opC zOp) 25)
      replace a1 := (Kept.of_below b5 0).same _ _ a1 (.inl rfl)
      replace a1 := (Kept.alloc 0 w5 (.cells (opC zOp) 25)).same _ _ a1 (.inl rfl)
      replace p7 := (Kept.of_below b5 0).same _ _ p7 (.inl rfl)
      replace p7 := (Kept.alloc 0 w5 (.cells (opC zOp) 25)).same _ _ p7 (.inl rfl)
      clear c4 b5 B5
      try unfold zOp
      unfold opV opC
      try unfold zOp at a1 p7 B6
      unfold opC at a1 p7 B6
      dsimp only at a1 p7 B6 ⊢
      have d0 : (w5.alloc (.cells #[.int .i64 0, .int .i64 0, .int .i64 0, .int .i64 0, .string ⟨#[]⟩, .int .i64 0, .int .i64 0, .int .i64 0, .int .i64 0, .int .i64 0] 25)).cell? ⟨w.heap.size, 0, none⟩ = some (.int .i64 x.k) := cell_blk (i := 0) a1 rfl
      have d1 : (w5.alloc (.cells #[.int .i64 0, .int .i64 0, .int .i64 0, .int .i64 0, .string ⟨#[]⟩, .int .i64 0, .int .i64 0, .int .i64 0, .int .i64 0, .int .i64 0] 25)).cell? ⟨w.heap.size, 1, none⟩ = some (.int .i64 x.r) := cell_blk (i := 1) a1 rfl
      have d2 : (w5.alloc (.cells #[.int .i64 0, .int .i64 0, .int .i64 0, .int .i64 0, .string ⟨#[]⟩, .int .i64 0, .int .i64 0, .int .i64 0, .int .i64 0, .int .i64 0] 25)).cell? ⟨w.heap.size, 2, none⟩ = some (.int .i64 x.o) := cell_blk (i := 2) a1 rfl
      have d3 : (w5.alloc (.cells #[.int .i64 0, .int .i64 0, .int .i64 0, .int .i64 0, .string ⟨#[]⟩, .int .i64 0, .int .i64 0, .int .i64 0, .int .i64 0, .int .i64 0] 25)).cell? ⟨w.heap.size, 3, none⟩ = some (.int .i64 x.n) := cell_blk (i := 3) a1 rfl
      have d4 : (w5.alloc (.cells #[.int .i64 0, .int .i64 0, .int .i64 0, .int .i64 0, .string ⟨#[]⟩, .int .i64 0, .int .i64 0, .int .i64 0, .int .i64 0, .int .i64 0] 25)).cell? ⟨w.heap.size, 4, none⟩ = some (.string x.s) := cell_blk (i := 4) a1 rfl
      have d5 : (w5.alloc (.cells #[.int .i64 0, .int .i64 0, .int .i64 0, .int .i64 0, .string ⟨#[]⟩, .int .i64 0, .int .i64 0, .int .i64 0, .int .i64 0, .int .i64 0] 25)).cell? ⟨w.heap.size, 5, none⟩ = some (.int .i64 x.w) := cell_blk (i := 5) a1 rfl
      have d6 : (w5.alloc (.cells #[.int .i64 0, .int .i64 0, .int .i64 0, .int .i64 0, .string ⟨#[]⟩, .int .i64 0, .int .i64 0, .int .i64 0, .int .i64 0, .int .i64 0] 25)).cell? ⟨w.heap.size, 6, none⟩ = some (.int .i64 x.h) := cell_blk (i := 6) a1 rfl
      have d7 : (w5.alloc (.cells #[.int .i64 0, .int .i64 0, .int .i64 0, .int .i64 0, .string ⟨#[]⟩, .int .i64 0, .int .i64 0, .int .i64 0, .int .i64 0, .int .i64 0] 25)).cell? ⟨w.heap.size, 7, none⟩ = some (.int .i64 x.t) := cell_blk (i := 7) a1 rfl
      have d8 : (w5.alloc (.cells #[.int .i64 0, .int .i64 0, .int .i64 0, .int .i64 0, .string ⟨#[]⟩, .int .i64 0, .int .i64 0, .int .i64 0, .int .i64 0, .int .i64 0] 25)).cell? ⟨w.heap.size, 8, none⟩ = some (.int .i64 x.c) := cell_blk (i := 8) a1 rfl
      have d9 : (w5.alloc (.cells #[.int .i64 0, .int .i64 0, .int .i64 0, .int .i64 0, .string ⟨#[]⟩, .int .i64 0, .int .i64 0, .int .i64 0, .int .i64 0, .int .i64 0] 25)).cell? ⟨w.heap.size, 9, none⟩ = some (.int .i64 x.i) := cell_blk (i := 9) a1 rfl
      have f0 : (w5.alloc (.cells #[.int .i64 0, .int .i64 0, .int .i64 0, .int .i64 0, .string ⟨#[]⟩, .int .i64 0, .int .i64 0, .int .i64 0, .int .i64 0, .int .i64 0] 25)).cell? ⟨m7, 0, none⟩ = some (.int .i64 x.k) := cell_blk (i := 0) p7 rfl
      have f1 : (w5.alloc (.cells #[.int .i64 0, .int .i64 0, .int .i64 0, .int .i64 0, .string ⟨#[]⟩, .int .i64 0, .int .i64 0, .int .i64 0, .int .i64 0, .int .i64 0] 25)).cell? ⟨m7, 1, none⟩ = some (.int .i64 x.r) := cell_blk (i := 1) p7 rfl
      have f2 : (w5.alloc (.cells #[.int .i64 0, .int .i64 0, .int .i64 0, .int .i64 0, .string ⟨#[]⟩, .int .i64 0, .int .i64 0, .int .i64 0, .int .i64 0, .int .i64 0] 25)).cell? ⟨m7, 2, none⟩ = some (.int .i64 x.o) := cell_blk (i := 2) p7 rfl
      have f3 : (w5.alloc (.cells #[.int .i64 0, .int .i64 0, .int .i64 0, .int .i64 0, .string ⟨#[]⟩, .int .i64 0, .int .i64 0, .int .i64 0, .int .i64 0, .int .i64 0] 25)).cell? ⟨m7, 3, none⟩ = some (.int .i64 x.n) := cell_blk (i := 3) p7 rfl
      have f4 : (w5.alloc (.cells #[.int .i64 0, .int .i64 0, .int .i64 0, .int .i64 0, .string ⟨#[]⟩, .int .i64 0, .int .i64 0, .int .i64 0, .int .i64 0, .int .i64 0] 25)).cell? ⟨m7, 4, none⟩ = some (.string x.s) := cell_blk (i := 4) p7 rfl
      have f5 : (w5.alloc (.cells #[.int .i64 0, .int .i64 0, .int .i64 0, .int .i64 0, .string ⟨#[]⟩, .int .i64 0, .int .i64 0, .int .i64 0, .int .i64 0, .int .i64 0] 25)).cell? ⟨m7, 5, none⟩ = some (.int .i64 x.w) := cell_blk (i := 5) p7 rfl
      have f6 : (w5.alloc (.cells #[.int .i64 0, .int .i64 0, .int .i64 0, .int .i64 0, .string ⟨#[]⟩, .int .i64 0, .int .i64 0, .int .i64 0, .int .i64 0, .int .i64 0] 25)).cell? ⟨m7, 6, none⟩ = some (.int .i64 x.h) := cell_blk (i := 6) p7 rfl
      have f7 : (w5.alloc (.cells #[.int .i64 0, .int .i64 0, .int .i64 0, .int .i64 0, .string ⟨#[]⟩, .int .i64 0, .int .i64 0, .int .i64 0, .int .i64 0, .int .i64 0] 25)).cell? ⟨m7, 7, none⟩ = some (.int .i64 x.t) := cell_blk (i := 7) p7 rfl
      have f8 : (w5.alloc (.cells #[.int .i64 0, .int .i64 0, .int .i64 0, .int .i64 0, .string ⟨#[]⟩, .int .i64 0, .int .i64 0, .int .i64 0, .int .i64 0, .int .i64 0] 25)).cell? ⟨m7, 8, none⟩ = some (.int .i64 x.c) := cell_blk (i := 8) p7 rfl
      have f9 : (w5.alloc (.cells #[.int .i64 0, .int .i64 0, .int .i64 0, .int .i64 0, .string ⟨#[]⟩, .int .i64 0, .int .i64 0, .int .i64 0, .int .i64 0, .int .i64 0] 25)).cell? ⟨m7, 9, none⟩ = some (.int .i64 x.i) := cell_blk (i := 9) p7 rfl
      clear x0 x1 x2 x3 x4 x5 x6 x7 x8 x9
      cases hl : lineS s.data.toList with
      | none =>
        have cL := hid (Line_val s (w5.alloc (.cells #[.int .i64 0, .int .i64 0, .int .i64 0, .int .i64 0, .string ⟨#[]⟩, .int .i64 0, .int .i64 0, .int .i64 0, .int .i64 0, .int .i64 0] 25)) (by omega) (hT.below B6) zOp 11 (.inr ⟨hl, rfl, rfl⟩))
        replace hl := hid hl
        go_wp2_with (fail)
        refine cL.out.mono ?_
        rintro e u1 ⟨rfl, d1⟩
        have D1 := B6.trans (d1.mono B6.size)
        have D2 := D1.alloc D1.size (.cells (opC zOp) 25)
        have ry := World.alloc_heap_new u1 (.cells (opC zOp) 25)
        have cV := hid (wakes_any _ (hT.below D2))
        unfold zOp opC at ry cV D2
        try unfold zOp
        unfold opV opC
        dsimp only at ry cV D2 ⊢
        have yy0 : (u1.alloc (.cells #[.int .i64 0, .int .i64 0, .int .i64 0, .int .i64 0, .string ⟨#[]⟩, .int .i64 0, .int .i64 0, .int .i64 0, .int .i64 0, .int .i64 0] 25)).cell? ⟨u1.heap.size, 0, none⟩ = some (.int .i64 0) := cell_blk (i := 0) ry rfl
        have yy1 : (u1.alloc (.cells #[.int .i64 0, .int .i64 0, .int .i64 0, .int .i64 0, .string ⟨#[]⟩, .int .i64 0, .int .i64 0, .int .i64 0, .int .i64 0, .int .i64 0] 25)).cell? ⟨u1.heap.size, 1, none⟩ = some (.int .i64 0) := cell_blk (i := 1) ry rfl
        have yy2 : (u1.alloc (.cells #[.int .i64 0, .int .i64 0, .int .i64 0, .int .i64 0, .string ⟨#[]⟩, .int .i64 0, .int .i64 0, .int .i64 0, .int .i64 0, .int .i64 0] 25)).cell? ⟨u1.heap.size, 2, none⟩ = some (.int .i64 0) := cell_blk (i := 2) ry rfl
        have yy3 : (u1.alloc (.cells #[.int .i64 0, .int .i64 0, .int .i64 0, .int .i64 0, .string ⟨#[]⟩, .int .i64 0, .int .i64 0, .int .i64 0, .int .i64 0, .int .i64 0] 25)).cell? ⟨u1.heap.size, 3, none⟩ = some (.int .i64 0) := cell_blk (i := 3) ry rfl
        have yy4 : (u1.alloc (.cells #[.int .i64 0, .int .i64 0, .int .i64 0, .int .i64 0, .string ⟨#[]⟩, .int .i64 0, .int .i64 0, .int .i64 0, .int .i64 0, .int .i64 0] 25)).cell? ⟨u1.heap.size, 4, none⟩ = some (.string ⟨#[]⟩) := cell_blk (i := 4) ry rfl
        have yy5 : (u1.alloc (.cells #[.int .i64 0, .int .i64 0, .int .i64 0, .int .i64 0, .string ⟨#[]⟩, .int .i64 0, .int .i64 0, .int .i64 0, .int .i64 0, .int .i64 0] 25)).cell? ⟨u1.heap.size, 5, none⟩ = some (.int .i64 0) := cell_blk (i := 5) ry rfl
        have yy6 : (u1.alloc (.cells #[.int .i64 0, .int .i64 0, .int .i64 0, .int .i64 0, .string ⟨#[]⟩, .int .i64 0, .int .i64 0, .int .i64 0, .int .i64 0, .int .i64 0] 25)).cell? ⟨u1.heap.size, 6, none⟩ = some (.int .i64 0) := cell_blk (i := 6) ry rfl
        have yy7 : (u1.alloc (.cells #[.int .i64 0, .int .i64 0, .int .i64 0, .int .i64 0, .string ⟨#[]⟩, .int .i64 0, .int .i64 0, .int .i64 0, .int .i64 0, .int .i64 0] 25)).cell? ⟨u1.heap.size, 7, none⟩ = some (.int .i64 0) := cell_blk (i := 7) ry rfl
        have yy8 : (u1.alloc (.cells #[.int .i64 0, .int .i64 0, .int .i64 0, .int .i64 0, .string ⟨#[]⟩, .int .i64 0, .int .i64 0, .int .i64 0, .int .i64 0, .int .i64 0] 25)).cell? ⟨u1.heap.size, 8, none⟩ = some (.int .i64 0) := cell_blk (i := 8) ry rfl
        have yy9 : (u1.alloc (.cells #[.int .i64 0, .int .i64 0, .int .i64 0, .int .i64 0, .string ⟨#[]⟩, .int .i64 0, .int .i64 0, .int .i64 0, .int .i64 0, .int .i64 0] 25)).cell? ⟨u1.heap.size, 9, none⟩ = some (.int .i64 0) := cell_blk (i := 9) ry rfl
        clear cL
        go_wp2_with (fail)
        refine cV.out.mono ?_
        rintro e u2 ⟨rfl, d2⟩
        go_wp2_with (fail)
        go_ret
        exact ⟨rfl, D2.trans (d2.mono D2.size)⟩
      | some z =>
        obtain ⟨hk1, hk2, hk3⟩ := line_back hl
        obtain ⟨y, hy⟩ : ∃ y : OpB, op8 y = z := ⟨ofO z, ofO_op z⟩
        have cL := hid (Line_val s (w5.alloc (.cells #[.int .i64 0, .int .i64 0, .int .i64 0, .int .i64 0, .string ⟨#[]⟩, .int .i64 0, .int .i64 0, .int .i64 0, .int .i64 0, .int .i64 0] 25)) (by omega) (hT.below B6) y 0 (.inl ⟨by rw [hl, hy], rfl⟩))
        replace hl := hid hl
        go_wp2_with (fail)
        refine cL.out.mono ?_
        rintro e u1 ⟨rfl, d1⟩
        have D1 := B6.trans (d1.mono B6.size)
        have D2 := D1.alloc D1.size (.cells (opC y) 25)
        have ry := World.alloc_heap_new u1 (.cells (opC y) 25)
        have hys : y.s.size ≤ 240 := by
          have : (op8 y).src.length = y.s.size := size8 y.s
          rw [← this, hy]; exact hk2
        have cT2 := hid (Text_any y _ (by rw [hy]; exact hk1) (by omega) (hT.below D2))
        unfold TextE at cT2
        rw [hy, hk3] at cT2
        simp only [Option.getD_some, Option.isSome_some, if_true, toB_self] at cT2
        clear cL
        obtain ⟨yk, yr, yo, yn, ys, yw, yh, yt, yc, yi⟩ := y
        unfold opV opC at *
        dsimp only at ry cT2 D2 ⊢
        have yy0 : (u1.alloc (.cells #[.int .i64 yk, .int .i64 yr, .int .i64 yo, .int .i64 yn, .string ys, .int .i64 yw, .int .i64 yh, .int .i64 yt, .int .i64 yc, .int .i64 yi] 25)).cell? ⟨u1.heap.size, 0, none⟩ = some (.int .i64 yk) := cell_blk (i := 0) ry rfl
        have yy1 : (u1.alloc (.cells #[.int .i64 yk, .int .i64 yr, .int .i64 yo, .int .i64 yn, .string ys, .int .i64 yw, .int .i64 yh, .int .i64 yt, .int .i64 yc, .int .i64 yi] 25)).cell? ⟨u1.heap.size, 1, none⟩ = some (.int .i64 yr) := cell_blk (i := 1) ry rfl
        have yy2 : (u1.alloc (.cells #[.int .i64 yk, .int .i64 yr, .int .i64 yo, .int .i64 yn, .string ys, .int .i64 yw, .int .i64 yh, .int .i64 yt, .int .i64 yc, .int .i64 yi] 25)).cell? ⟨u1.heap.size, 2, none⟩ = some (.int .i64 yo) := cell_blk (i := 2) ry rfl
        have yy3 : (u1.alloc (.cells #[.int .i64 yk, .int .i64 yr, .int .i64 yo, .int .i64 yn, .string ys, .int .i64 yw, .int .i64 yh, .int .i64 yt, .int .i64 yc, .int .i64 yi] 25)).cell? ⟨u1.heap.size, 3, none⟩ = some (.int .i64 yn) := cell_blk (i := 3) ry rfl
        have yy4 : (u1.alloc (.cells #[.int .i64 yk, .int .i64 yr, .int .i64 yo, .int .i64 yn, .string ys, .int .i64 yw, .int .i64 yh, .int .i64 yt, .int .i64 yc, .int .i64 yi] 25)).cell? ⟨u1.heap.size, 4, none⟩ = some (.string ys) := cell_blk (i := 4) ry rfl
        have yy5 : (u1.alloc (.cells #[.int .i64 yk, .int .i64 yr, .int .i64 yo, .int .i64 yn, .string ys, .int .i64 yw, .int .i64 yh, .int .i64 yt, .int .i64 yc, .int .i64 yi] 25)).cell? ⟨u1.heap.size, 5, none⟩ = some (.int .i64 yw) := cell_blk (i := 5) ry rfl
        have yy6 : (u1.alloc (.cells #[.int .i64 yk, .int .i64 yr, .int .i64 yo, .int .i64 yn, .string ys, .int .i64 yw, .int .i64 yh, .int .i64 yt, .int .i64 yc, .int .i64 yi] 25)).cell? ⟨u1.heap.size, 6, none⟩ = some (.int .i64 yh) := cell_blk (i := 6) ry rfl
        have yy7 : (u1.alloc (.cells #[.int .i64 yk, .int .i64 yr, .int .i64 yo, .int .i64 yn, .string ys, .int .i64 yw, .int .i64 yh, .int .i64 yt, .int .i64 yc, .int .i64 yi] 25)).cell? ⟨u1.heap.size, 7, none⟩ = some (.int .i64 yt) := cell_blk (i := 7) ry rfl
        have yy8 : (u1.alloc (.cells #[.int .i64 yk, .int .i64 yr, .int .i64 yo, .int .i64 yn, .string ys, .int .i64 yw, .int .i64 yh, .int .i64 yt, .int .i64 yc, .int .i64 yi] 25)).cell? ⟨u1.heap.size, 8, none⟩ = some (.int .i64 yc) := cell_blk (i := 8) ry rfl
        have yy9 : (u1.alloc (.cells #[.int .i64 yk, .int .i64 yr, .int .i64 yo, .int .i64 yn, .string ys, .int .i64 yw, .int .i64 yh, .int .i64 yt, .int .i64 yc, .int .i64 yi] 25)).cell? ⟨u1.heap.size, 9, none⟩ = some (.int .i64 yi) := cell_blk (i := 9) ry rfl
        replace hk3 := hid hk3
        replace hy := hid hy
        go_wp2_with (fail)
        refine cT2.out.mono ?_
        rintro e u2 ⟨rfl, d2⟩
        have D3 := D2.trans (d2.mono D2.size)
        have cV := hid (wakes_any _ (hT.below D3))
        go_wp2_with (fail)
        refine cV.out.mono ?_
        rintro e u3 ⟨rfl, d3⟩
        go_wp2_with (fail)
        go_ret
        exact ⟨rfl, D3.trans (d3.mono D3.size)⟩
end Go.Proofs.YtkmnmigpnbehaaaDoor
