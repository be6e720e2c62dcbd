/- The walk of ScriptLines (printed by gen_sde.py). -/
import Derived.Test.YtkmnmigpnbehaaaDoorSdB
import Derived.Deep.RegionHeld3
import Derived.Deep.QuietTactic
namespace Go.Proofs.YtkmnmigpnbehaaaDoor
open Go.RowKit Go.Shelf Go.Lib

theorem sameIfs (x y : OpB) (w : World) : (if x.k = y.k then if x.r = y.r then if x.o = y.o then if x.n = y.n then if x.s.toList = y.s.toList then if x.w = y.w then if x.h = y.h then if x.t = y.t then if x.c = y.c then if x.i = y.i then Result.ok (Next.value (Value.bool true)) w else Result.ok (Next.value (Value.bool false)) w else Result.ok (Next.value (Value.bool false)) w else Result.ok (Next.value (Value.bool false)) w else Result.ok (Next.value (Value.bool false)) w else Result.ok (Next.value (Value.bool false)) w else Result.ok (Next.value (Value.bool false)) w else Result.ok (Next.value (Value.bool false)) w else Result.ok (Next.value (Value.bool false)) w else Result.ok (Next.value (Value.bool false)) w else Result.ok (Next.value (Value.bool false)) w) = Result.ok (Next.value (Value.bool (sameB x y))) w := by
  have hs : sameB x y = decide (x.k = y.k ∧ x.r = y.r ∧ x.o = y.o ∧ x.n = y.n ∧ x.s.toList = y.s.toList ∧ x.w = y.w ∧ x.h = y.h ∧ x.t = y.t ∧ x.c = y.c ∧ x.i = y.i) := by
    unfold sameB; rw [Lib.toList_data, Lib.toList_data]
  rw [hs]
  clear hs
  repeat' split
  all_goals congr 3; symm; simp_all
theorem rLine_val (s : ByteArray) (w : World) (hs : s.size ≤ 1000000) (o : OpB) (g : Bool) (h : (lineS s.data.toList = some (op8 o) ∧ g = true) ∨ (lineS s.data.toList = none ∧ o = zOp ∧ g = false)) :
    Calls Tryd.prog 8 #[.string s] w fun e w' => e = .returned (.agg (gotC o g)) ∧ Below w.heap.size w w' := by
  refine (rLine_any s w hs).mono ?_
  rintro e w' ⟨y, rfl, hy, hB⟩
  rcases h with ⟨h1, rfl⟩ | ⟨h1, rfl, rfl⟩
  · rw [h1] at hy ⊢
    rw [op8_inj (y := o) hy]
    exact ⟨rfl, hB⟩
  · rw [h1] at hy ⊢
    rw [op8_inj (y := zOp) hy]
    exact ⟨rfl, hB⟩
theorem Text_val (x : OpB) (w : World) (hx : OkO (op8 x)) (hs : x.s.size ≤ 50000) (hT : STabs w) (TT : ByteArray) (n : Int) (h : (⟨((textO (op8 x)).getD []).toArray⟩ : ByteArray) = TT ∧ n = if (textO (op8 x)).isSome = true then 0 else 11) :
    Calls Tryd.prog 9 #[opV x] w fun e w' => e = .returned (.tuple #[.string TT, .int .i64 n]) ∧ Below w.heap.size w w' := by
  refine (Text_any x w hx hs hT).mono ?_
  obtain ⟨rfl, rfl⟩ := h
  rintro e w' ⟨rfl, hB⟩
  exact ⟨rfl, hB⟩
theorem text_ne {x : Op8} {T : L8} (h : textO x = some T) : T ≠ [] := by
  obtain ⟨f, hf, -, -, rfl⟩ := textO_some h
  have h1 := (forms_good f hf).2.2.2
  unfold spellS wordsOf
  intro h
  cases hl : f.2.2.map (sayS x) with
  | nil => rw [hl] at h; exact h1 h
  | cons a r => rw [hl, joinB_cons _ _ (by simp)] at h; simp at h

set_option maxRecDepth 100000 in
set_option maxHeartbeats 8000000 in
theorem ScriptLines_any (s : ByteArray) (x y : OpB) (w : World) (hx : OkO (op8 x)) (hy : OkO (op8 y)) (hT : STabs w) :
    Calls Tryd.prog 3 #[.string s, opV x, opV y] w fun e w' => e = .returned (.bool true) ∧ Below w.heap.size w w' := by
  obtain ⟨n₀, hn₀⟩ : ∃ n, w.heap.size = n := ⟨_, rfl⟩
  have hz0 : (w.alloc (.cells #[.int .i64 x.k, .int .i64 x.r, .int .i64 x.o, .int .i64 x.n, .string x.s, .int .i64 x.w, .int .i64 x.h, .int .i64 x.t, .int .i64 x.c, .int .i64 x.i] 25)).heap.size = n₀ + 1 := by simp [hn₀]
  have x00 := World.alloc_heap_new w (.cells #[.int .i64 x.k, .int .i64 x.r, .int .i64 x.o, .int .i64 x.n, .string x.s, .int .i64 x.w, .int .i64 x.h, .int .i64 x.t, .int .i64 x.c, .int .i64 x.i] 25)
  have yy0 := World.alloc_heap_new (w.alloc (.cells #[.int .i64 x.k, .int .i64 x.r, .int .i64 x.o, .int .i64 x.n, .string x.s, .int .i64 x.w, .int .i64 x.h, .int .i64 x.t, .int .i64 x.c, .int .i64 x.i] 25)) (.cells #[.int .i64 y.k, .int .i64 y.r, .int .i64 y.o, .int .i64 y.n, .string y.s, .int .i64 y.w, .int .i64 y.h, .int .i64 y.t, .int .i64 y.c, .int .i64 y.i] 25)
  rw [hn₀] at x00
  rw [hz0] at yy0
  have x0 := (Kept.alloc 0 (w.alloc (.cells #[.int .i64 x.k, .int .i64 x.r, .int .i64 x.o, .int .i64 x.n, .string x.s, .int .i64 x.w, .int .i64 x.h, .int .i64 x.t, .int .i64 x.c, .int .i64 x.i] 25)) (.cells #[.int .i64 y.k, .int .i64 y.r, .int .i64 y.o, .int .i64 y.n, .string y.s, .int .i64 y.w, .int .i64 y.h, .int .i64 y.t, .int .i64 y.c, .int .i64 y.i] 25)).same _ _ x00 (.inl rfl)
  have B1 : Below n₀ w (w.alloc (.cells #[.int .i64 x.k, .int .i64 x.r, .int .i64 x.o, .int .i64 x.n, .string x.s, .int .i64 x.w, .int .i64 x.h, .int .i64 x.t, .int .i64 x.c, .int .i64 x.i] 25)) := by rw [← hn₀]; exact (Below.refl _ w).alloc (Nat.le_refl _) _
  have B2 := B1.alloc (by have := B1.size; omega) (.cells #[.int .i64 y.k, .int .i64 y.r, .int .i64 y.o, .int .i64 y.n, .string y.s, .int .i64 y.w, .int .i64 y.h, .int .i64 y.t, .int .i64 y.c, .int .i64 y.i] 25)
  have q4 : ((w.alloc (.cells #[.int .i64 x.k, .int .i64 x.r, .int .i64 x.o, .int .i64 x.n, .string x.s, .int .i64 x.w, .int .i64 x.h, .int .i64 x.t, .int .i64 x.c, .int .i64 x.i] 25)).alloc (.cells #[.int .i64 y.k, .int .i64 y.r, .int .i64 y.o, .int .i64 y.n, .string y.s, .int .i64 y.w, .int .i64 y.h, .int .i64 y.t, .int .i64 y.c, .int .i64 y.i] 25)).cell? ⟨n₀, 4, none⟩ = some (.string x.s) := cell_blk (i := 4) x0 rfl
  have p4 : ((w.alloc (.cells #[.int .i64 x.k, .int .i64 x.r, .int .i64 x.o, .int .i64 x.n, .string x.s, .int .i64 x.w, .int .i64 x.h, .int .i64 x.t, .int .i64 x.c, .int .i64 x.i] 25)).alloc (.cells #[.int .i64 y.k, .int .i64 y.r, .int .i64 y.o, .int .i64 y.n, .string y.s, .int .i64 y.w, .int .i64 y.h, .int .i64 y.t, .int .i64 y.c, .int .i64 y.i] 25)).cell? ⟨n₀ + 1, 4, none⟩ = some (.string y.s) := cell_blk (i := 4) yy0 rfl
  clear x00 B1
  have cW := hid (wakes_any ((w.alloc (.cells #[.int .i64 x.k, .int .i64 x.r, .int .i64 x.o, .int .i64 x.n, .string x.s, .int .i64 x.w, .int .i64 x.h, .int .i64 x.t, .int .i64 x.c, .int .i64 x.i] 25)).alloc (.cells #[.int .i64 y.k, .int .i64 y.r, .int .i64 y.o, .int .i64 y.n, .string y.s, .int .i64 y.w, .int .i64 y.h, .int .i64 y.t, .int .i64 y.c, .int .i64 y.i] 25)) (hT.below (hn₀ ▸ B2)))
  unfold opV opC
  by_cases h1 : (2000 : Int) < s.size
  · go_enter Tryd.func3, Tryd.ntmps3
    go_wp2_with (fail)
    refine cW.out.mono ?_
    rintro e u2 ⟨rfl, d2⟩
    go_wp2_with (fail)
    go_ret
    first | exact ⟨rfl, B2.trans (d2.mono (by have := B2.size; omega))⟩ | exact ⟨rfl, hn₀ ▸ B2.trans (d2.mono (by have := B2.size; omega))⟩
  · by_cases h2 : (500 : Int) < x.s.size
    · go_enter Tryd.func3, Tryd.ntmps3
      go_wp2_with (fail)
      refine cW.out.mono ?_
      rintro e u2 ⟨rfl, d2⟩
      go_wp2_with (fail)
      go_ret
      first | exact ⟨rfl, B2.trans (d2.mono (by have := B2.size; omega))⟩ | exact ⟨rfl, hn₀ ▸ B2.trans (d2.mono (by have := B2.size; omega))⟩
    · by_cases h3 : (500 : Int) < y.s.size
      · go_enter Tryd.func3, Tryd.ntmps3
        go_wp2_with (fail)
        refine cW.out.mono ?_
        rintro e u2 ⟨rfl, d2⟩
        go_wp2_with (fail)
        go_ret
        first | exact ⟨rfl, B2.trans (d2.mono (by have := B2.size; omega))⟩ | exact ⟨rfl, hn₀ ▸ B2.trans (d2.mono (by have := B2.size; omega))⟩
      · clear cW
        obtain ⟨TT, hTU⟩ : ∃ b : ByteArray, (⟨((textO (op8 x)).getD []).toArray⟩ : ByteArray) = b := ⟨_, rfl⟩
        cases hX : textO (op8 x) with
        | none =>
          have hTv : (⟨((textO (op8 x)).getD []).toArray⟩ : ByteArray) = TT ∧ (11 : Int) = if (textO (op8 x)).isSome = true then 0 else 11 := ⟨hTU, by rw [hX]; rfl⟩
          have hTT : TT = ⟨#[]⟩ := by rw [← hTU, hX]; rfl
          subst hTT
          cases hL : lineS s.data.toList with
          | none =>
            obtain ⟨o, ho⟩ : ∃ o : OpB, o = zOp := ⟨_, rfl⟩
            have hLv : (lineS s.data.toList = some (op8 o) ∧ false = true) ∨ (lineS s.data.toList = none ∧ o = zOp ∧ false = false) := .inr ⟨hL, ho, rfl⟩
            have cL := hid (Line_val s ((w.alloc (.cells #[.int .i64 x.k, .int .i64 x.r, .int .i64 x.o, .int .i64 x.n, .string x.s, .int .i64 x.w, .int .i64 x.h, .int .i64 x.t, .int .i64 x.c, .int .i64 x.i] 25)).alloc (.cells #[.int .i64 y.k, .int .i64 y.r, .int .i64 y.o, .int .i64 y.n, .string y.s, .int .i64 y.w, .int .i64 y.h, .int .i64 y.t, .int .i64 y.c, .int .i64 y.i] 25)) (by omega) (hT.below (hn₀ ▸ B2)) o 11 (.inr ⟨hL, ho, rfl⟩))
            have cRr := hid (fun W => rLine_val s W (by omega) o false hLv)
            have cTt := hid (fun (W : World) (h : Below n₀ w W) => Text_val x W hx (by omega) (hT.below (hn₀ ▸ h)) _ _ hTv)
            clear hLv hTv
            replace hTU := hid hTU
            replace ho := hid ho
            unfold opV opC at cL
            clear q4 p4
            replace hL := hid hL
            replace hX := hid hX
            go_enter Tryd.func3, Tryd.ntmps3
            go_wp2_with (fail)
            refine cL.out.mono ?_
            rintro e w1 ⟨rfl, b1⟩
            have x1 := (Kept.of_below b1 0).same _ _ x0 (.inl rfl)
            have yy1 := (Kept.of_below b1 0).same _ _ yy0 (.inl rfl)
            have B3 := B2.trans (b1.mono (by have := B2.size; omega))
            obtain ⟨n5, hn5⟩ : ∃ n, w1.heap.size = n := ⟨_, rfl⟩
            have o1 := World.alloc_heap_new w1 (.cells #[.int .i64 o.k, .int .i64 o.r, .int .i64 o.o, .int .i64 o.n, .string o.s, .int .i64 o.w, .int .i64 o.h, .int .i64 o.t, .int .i64 o.c, .int .i64 o.i] 25)
            rw [hn5] at o1
            have x1a := (Kept.alloc 0 w1 (.cells #[.int .i64 o.k, .int .i64 o.r, .int .i64 o.o, .int .i64 o.n, .string o.s, .int .i64 o.w, .int .i64 o.h, .int .i64 o.t, .int .i64 o.c, .int .i64 o.i] 25)).same _ _ x1 (.inl rfl)
            have yy1a := (Kept.alloc 0 w1 (.cells #[.int .i64 o.k, .int .i64 o.r, .int .i64 o.o, .int .i64 o.n, .string o.s, .int .i64 o.w, .int .i64 o.h, .int .i64 o.t, .int .i64 o.c, .int .i64 o.i] 25)).same _ _ yy1 (.inl rfl)
            have B3a := B3.alloc (by have := B3.size; omega) (.cells #[.int .i64 o.k, .int .i64 o.r, .int .i64 o.o, .int .i64 o.n, .string o.s, .int .i64 o.w, .int .i64 o.h, .int .i64 o.t, .int .i64 o.c, .int .i64 o.i] 25)
            have cR := hid (cRr.out (w1.alloc (.cells #[.int .i64 o.k, .int .i64 o.r, .int .i64 o.o, .int .i64 o.n, .string o.s, .int .i64 o.w, .int .i64 o.h, .int .i64 o.t, .int .i64 o.c, .int .i64 o.i] 25)))
            unfold gotC at cR
            clear cL b1 x1 yy1 B3
            go_wp2_with (fail)
            refine cR.out.mono ?_
            rintro e w2 ⟨rfl, b2⟩
            have x2 := (Kept.of_below b2 0).same _ _ x1a (.inl rfl)
            have yy2 := (Kept.of_below b2 0).same _ _ yy1a (.inl rfl)
            have o2 := (Kept.of_below b2 0).same _ _ o1 (.inl rfl)
            have B4' := B3a.trans (b2.mono (by have := B3a.size; omega))
            obtain ⟨n6, hn6⟩ : ∃ n, w2.heap.size = n := ⟨_, rfl⟩
            have g2 := World.alloc_heap_new w2 (.cells #[.int .i64 o.k, .int .i64 o.r, .int .i64 o.o, .int .i64 o.n, .string o.s, .int .i64 o.w, .int .i64 o.h, .int .i64 o.t, .int .i64 o.c, .int .i64 o.i, .bool false] 31)
            rw [hn6] at g2
            have x2a := (Kept.alloc 0 w2 (.cells #[.int .i64 o.k, .int .i64 o.r, .int .i64 o.o, .int .i64 o.n, .string o.s, .int .i64 o.w, .int .i64 o.h, .int .i64 o.t, .int .i64 o.c, .int .i64 o.i, .bool false] 31)).same _ _ x2 (.inl rfl)
            have yy2a := (Kept.alloc 0 w2 (.cells #[.int .i64 o.k, .int .i64 o.r, .int .i64 o.o, .int .i64 o.n, .string o.s, .int .i64 o.w, .int .i64 o.h, .int .i64 o.t, .int .i64 o.c, .int .i64 o.i, .bool false] 31)).same _ _ yy2 (.inl rfl)
            have o2a := (Kept.alloc 0 w2 (.cells #[.int .i64 o.k, .int .i64 o.r, .int .i64 o.o, .int .i64 o.n, .string o.s, .int .i64 o.w, .int .i64 o.h, .int .i64 o.t, .int .i64 o.c, .int .i64 o.i, .bool false] 31)).same _ _ o2 (.inl rfl)
            have B4a := B4'.alloc (by have := B4'.size; omega) (.cells #[.int .i64 o.k, .int .i64 o.r, .int .i64 o.o, .int .i64 o.n, .string o.s, .int .i64 o.w, .int .i64 o.h, .int .i64 o.t, .int .i64 o.c, .int .i64 o.i, .bool false] 31)
            have c0 : (w2.alloc (.cells #[.int .i64 o.k, .int .i64 o.r, .int .i64 o.o, .int .i64 o.n, .string o.s, .int .i64 o.w, .int .i64 o.h, .int .i64 o.t, .int .i64 o.c, .int .i64 o.i, .bool false] 31)).cell? ⟨n₀, 0, none⟩ = some (.int .i64 x.k) := cell_blk (i := 0) x2a rfl
            have c1 : (w2.alloc (.cells #[.int .i64 o.k, .int .i64 o.r, .int .i64 o.o, .int .i64 o.n, .string o.s, .int .i64 o.w, .int .i64 o.h, .int .i64 o.t, .int .i64 o.c, .int .i64 o.i, .bool false] 31)).cell? ⟨n₀, 1, none⟩ = some (.int .i64 x.r) := cell_blk (i := 1) x2a rfl
            have c2 : (w2.alloc (.cells #[.int .i64 o.k, .int .i64 o.r, .int .i64 o.o, .int .i64 o.n, .string o.s, .int .i64 o.w, .int .i64 o.h, .int .i64 o.t, .int .i64 o.c, .int .i64 o.i, .bool false] 31)).cell? ⟨n₀, 2, none⟩ = some (.int .i64 x.o) := cell_blk (i := 2) x2a rfl
            have c3 : (w2.alloc (.cells #[.int .i64 o.k, .int .i64 o.r, .int .i64 o.o, .int .i64 o.n, .string o.s, .int .i64 o.w, .int .i64 o.h, .int .i64 o.t, .int .i64 o.c, .int .i64 o.i, .bool false] 31)).cell? ⟨n₀, 3, none⟩ = some (.int .i64 x.n) := cell_blk (i := 3) x2a rfl
            have c4 : (w2.alloc (.cells #[.int .i64 o.k, .int .i64 o.r, .int .i64 o.o, .int .i64 o.n, .string o.s, .int .i64 o.w, .int .i64 o.h, .int .i64 o.t, .int .i64 o.c, .int .i64 o.i, .bool false] 31)).cell? ⟨n₀, 4, none⟩ = some (.string x.s) := cell_blk (i := 4) x2a rfl
            have c5 : (w2.alloc (.cells #[.int .i64 o.k, .int .i64 o.r, .int .i64 o.o, .int .i64 o.n, .string o.s, .int .i64 o.w, .int .i64 o.h, .int .i64 o.t, .int .i64 o.c, .int .i64 o.i, .bool false] 31)).cell? ⟨n₀, 5, none⟩ = some (.int .i64 x.w) := cell_blk (i := 5) x2a rfl
            have c6 : (w2.alloc (.cells #[.int .i64 o.k, .int .i64 o.r, .int .i64 o.o, .int .i64 o.n, .string o.s, .int .i64 o.w, .int .i64 o.h, .int .i64 o.t, .int .i64 o.c, .int .i64 o.i, .bool false] 31)).cell? ⟨n₀, 6, none⟩ = some (.int .i64 x.h) := cell_blk (i := 6) x2a rfl
            have c7 : (w2.alloc (.cells #[.int .i64 o.k, .int .i64 o.r, .int .i64 o.o, .int .i64 o.n, .string o.s, .int .i64 o.w, .int .i64 o.h, .int .i64 o.t, .int .i64 o.c, .int .i64 o.i, .bool false] 31)).cell? ⟨n₀, 7, none⟩ = some (.int .i64 x.t) := cell_blk (i := 7) x2a rfl
            have c8 : (w2.alloc (.cells #[.int .i64 o.k, .int .i64 o.r, .int .i64 o.o, .int .i64 o.n, .string o.s, .int .i64 o.w, .int .i64 o.h, .int .i64 o.t, .int .i64 o.c, .int .i64 o.i, .bool false] 31)).cell? ⟨n₀, 8, none⟩ = some (.int .i64 x.c) := cell_blk (i := 8) x2a rfl
            have c9 : (w2.alloc (.cells #[.int .i64 o.k, .int .i64 o.r, .int .i64 o.o, .int .i64 o.n, .string o.s, .int .i64 o.w, .int .i64 o.h, .int .i64 o.t, .int .i64 o.c, .int .i64 o.i, .bool false] 31)).cell? ⟨n₀, 9, none⟩ = some (.int .i64 x.i) := cell_blk (i := 9) x2a rfl
            have cT := hid (cTt.out (w2.alloc (.cells #[.int .i64 o.k, .int .i64 o.r, .int .i64 o.o, .int .i64 o.n, .string o.s, .int .i64 o.w, .int .i64 o.h, .int .i64 o.t, .int .i64 o.c, .int .i64 o.i, .bool false] 31)) B4a)
            unfold opV opC at cT
            clear cR b2 x1a yy1a o1 B3a x2 yy2 o2 B4'
            go_wp2_with (fail)
            refine cT.out.mono ?_
            rintro e w3 ⟨rfl, b3⟩
            have x3 := (Kept.of_below b3 0).same _ _ x2a (.inl rfl)
            have yy3 := (Kept.of_below b3 0).same _ _ yy2a (.inl rfl)
            have o3 := (Kept.of_below b3 0).same _ _ o2a (.inl rfl)
            have g3 := (Kept.of_below b3 0).same _ _ g2 (.inl rfl)
            have B5 := B4a.trans (b3.mono (by have := B4a.size; omega))
            have d0 : w3.cell? ⟨n₀, 0, none⟩ = some (.int .i64 x.k) := cell_blk (i := 0) x3 rfl
            have d1 : w3.cell? ⟨n₀, 1, none⟩ = some (.int .i64 x.r) := cell_blk (i := 1) x3 rfl
            have d2 : w3.cell? ⟨n₀, 2, none⟩ = some (.int .i64 x.o) := cell_blk (i := 2) x3 rfl
            have d3 : w3.cell? ⟨n₀, 3, none⟩ = some (.int .i64 x.n) := cell_blk (i := 3) x3 rfl
            have d4 : w3.cell? ⟨n₀, 4, none⟩ = some (.string x.s) := cell_blk (i := 4) x3 rfl
            have d5 : w3.cell? ⟨n₀, 5, none⟩ = some (.int .i64 x.w) := cell_blk (i := 5) x3 rfl
            have d6 : w3.cell? ⟨n₀, 6, none⟩ = some (.int .i64 x.h) := cell_blk (i := 6) x3 rfl
            have d7 : w3.cell? ⟨n₀, 7, none⟩ = some (.int .i64 x.t) := cell_blk (i := 7) x3 rfl
            have d8 : w3.cell? ⟨n₀, 8, none⟩ = some (.int .i64 x.c) := cell_blk (i := 8) x3 rfl
            have d9 : w3.cell? ⟨n₀, 9, none⟩ = some (.int .i64 x.i) := cell_blk (i := 9) x3 rfl
            have cU := hid (rText_any x w3 hx (by omega))
            rw [hTU.out] at cU
            unfold opV opC at cU
            clear cT b3 x2a yy2a o2a g2 B4a c0 c1 c2 c3 c4 c5 c6 c7 c8 c9
            go_wp2_with (fail)
            refine cU.out.mono ?_
            rintro e w4 ⟨rfl, b4⟩
            have x4 := (Kept.of_below b4 0).same _ _ x3 (.inl rfl)
            have yy4 := (Kept.of_below b4 0).same _ _ yy3 (.inl rfl)
            have o4 := (Kept.of_below b4 0).same _ _ o3 (.inl rfl)
            have g4 := (Kept.of_below b4 0).same _ _ g3 (.inl rfl)
            have B4 := B5.trans (b4.mono (by have := B5.size; omega))
            have cS := hid (fun V => Same_any x y V)
            unfold opV opC at cS
            have cW := hid (fun (V : World) (h : Below n₀ w V) => wakes_any V (hT.below (hn₀ ▸ h)))
            clear cU b4 x3 yy3 o3 g3 B5 d0 d1 d2 d3 d4 d5 d6 d7 d8 d9 hx hy hz0
            go_upto_region 7 with (fail)
            have kS : Hid (∀ W W' : World, (W.cell? ⟨n₀, 0, none⟩ = some (.int .i64 x.k) ∧ W.cell? ⟨n₀, 1, none⟩ = some (.int .i64 x.r) ∧ W.cell? ⟨n₀, 2, none⟩ = some (.int .i64 x.o) ∧ W.cell? ⟨n₀, 3, none⟩ = some (.int .i64 x.n) ∧ W.cell? ⟨n₀, 4, none⟩ = some (.string x.s) ∧ W.cell? ⟨n₀, 5, none⟩ = some (.int .i64 x.w) ∧ W.cell? ⟨n₀, 6, none⟩ = some (.int .i64 x.h) ∧ W.cell? ⟨n₀, 7, none⟩ = some (.int .i64 x.t) ∧ W.cell? ⟨n₀, 8, none⟩ = some (.int .i64 x.c) ∧ W.cell? ⟨n₀, 9, none⟩ = some (.int .i64 x.i) ∧ W.cell? ⟨n₀ + 1, 0, none⟩ = some (.int .i64 y.k) ∧ W.cell? ⟨n₀ + 1, 1, none⟩ = some (.int .i64 y.r) ∧ W.cell? ⟨n₀ + 1, 2, none⟩ = some (.int .i64 y.o) ∧ W.cell? ⟨n₀ + 1, 3, none⟩ = some (.int .i64 y.n) ∧ W.cell? ⟨n₀ + 1, 4, none⟩ = some (.string y.s) ∧ W.cell? ⟨n₀ + 1, 5, none⟩ = some (.int .i64 y.w) ∧ W.cell? ⟨n₀ + 1, 6, none⟩ = some (.int .i64 y.h) ∧ W.cell? ⟨n₀ + 1, 7, none⟩ = some (.int .i64 y.t) ∧ W.cell? ⟨n₀ + 1, 8, none⟩ = some (.int .i64 y.c) ∧ W.cell? ⟨n₀ + 1, 9, none⟩ = some (.int .i64 y.i) ∧ W.cell? ⟨n5, 0, none⟩ = some (.int .i64 o.k) ∧ W.cell? ⟨n5, 1, none⟩ = some (.int .i64 o.r) ∧ W.cell? ⟨n5, 2, none⟩ = some (.int .i64 o.o) ∧ W.cell? ⟨n5, 3, none⟩ = some (.int .i64 o.n) ∧ W.cell? ⟨n5, 4, none⟩ = some (.string o.s) ∧ W.cell? ⟨n5, 5, none⟩ = some (.int .i64 o.w) ∧ W.cell? ⟨n5, 6, none⟩ = some (.int .i64 o.h) ∧ W.cell? ⟨n5, 7, none⟩ = some (.int .i64 o.t) ∧ W.cell? ⟨n5, 8, none⟩ = some (.int .i64 o.c) ∧ W.cell? ⟨n5, 9, none⟩ = some (.int .i64 o.i) ∧ W.cell? ⟨n6, 0, none⟩ = some (.int .i64 o.k) ∧ W.cell? ⟨n6, 1, none⟩ = some (.int .i64 o.r) ∧ W.cell? ⟨n6, 2, none⟩ = some (.int .i64 o.o) ∧ W.cell? ⟨n6, 3, none⟩ = some (.int .i64 o.n) ∧ W.cell? ⟨n6, 4, none⟩ = some (.string o.s) ∧ W.cell? ⟨n6, 5, none⟩ = some (.int .i64 o.w) ∧ W.cell? ⟨n6, 6, none⟩ = some (.int .i64 o.h) ∧ W.cell? ⟨n6, 7, none⟩ = some (.int .i64 o.t) ∧ W.cell? ⟨n6, 8, none⟩ = some (.int .i64 o.c) ∧ W.cell? ⟨n6, 9, none⟩ = some (.int .i64 o.i) ∧ W.cell? ⟨n6, 10, none⟩ = some (.bool false) ∧ W.heap[n₀]? = some (.cells #[.int .i64 x.k, .int .i64 x.r, .int .i64 x.o, .int .i64 x.n, .string x.s, .int .i64 x.w, .int .i64 x.h, .int .i64 x.t, .int .i64 x.c, .int .i64 x.i] 25 (0, 0)) ∧ W.heap[n₀ + 1]? = some (.cells #[.int .i64 y.k, .int .i64 y.r, .int .i64 y.o, .int .i64 y.n, .string y.s, .int .i64 y.w, .int .i64 y.h, .int .i64 y.t, .int .i64 y.c, .int .i64 y.i] 25 (0, 0)) ∧ W.heap[n5]? = some (.cells #[.int .i64 o.k, .int .i64 o.r, .int .i64 o.o, .int .i64 o.n, .string o.s, .int .i64 o.w, .int .i64 o.h, .int .i64 o.t, .int .i64 o.c, .int .i64 o.i] 25 (0, 0)) ∧ W.heap[n6]? = some (.cells #[.int .i64 o.k, .int .i64 o.r, .int .i64 o.o, .int .i64 o.n, .string o.s, .int .i64 o.w, .int .i64 o.h, .int .i64 o.t, .int .i64 o.c, .int .i64 o.i, .bool false] 31 (0, 0)) ∧ Below n₀ w W) → Below W.heap.size W W' → (W'.cell? ⟨n₀, 0, none⟩ = some (.int .i64 x.k) ∧ W'.cell? ⟨n₀, 1, none⟩ = some (.int .i64 x.r) ∧ W'.cell? ⟨n₀, 2, none⟩ = some (.int .i64 x.o) ∧ W'.cell? ⟨n₀, 3, none⟩ = some (.int .i64 x.n) ∧ W'.cell? ⟨n₀, 4, none⟩ = some (.string x.s) ∧ W'.cell? ⟨n₀, 5, none⟩ = some (.int .i64 x.w) ∧ W'.cell? ⟨n₀, 6, none⟩ = some (.int .i64 x.h) ∧ W'.cell? ⟨n₀, 7, none⟩ = some (.int .i64 x.t) ∧ W'.cell? ⟨n₀, 8, none⟩ = some (.int .i64 x.c) ∧ W'.cell? ⟨n₀, 9, none⟩ = some (.int .i64 x.i) ∧ W'.cell? ⟨n₀ + 1, 0, none⟩ = some (.int .i64 y.k) ∧ W'.cell? ⟨n₀ + 1, 1, none⟩ = some (.int .i64 y.r) ∧ W'.cell? ⟨n₀ + 1, 2, none⟩ = some (.int .i64 y.o) ∧ W'.cell? ⟨n₀ + 1, 3, none⟩ = some (.int .i64 y.n) ∧ W'.cell? ⟨n₀ + 1, 4, none⟩ = some (.string y.s) ∧ W'.cell? ⟨n₀ + 1, 5, none⟩ = some (.int .i64 y.w) ∧ W'.cell? ⟨n₀ + 1, 6, none⟩ = some (.int .i64 y.h) ∧ W'.cell? ⟨n₀ + 1, 7, none⟩ = some (.int .i64 y.t) ∧ W'.cell? ⟨n₀ + 1, 8, none⟩ = some (.int .i64 y.c) ∧ W'.cell? ⟨n₀ + 1, 9, none⟩ = some (.int .i64 y.i) ∧ W'.cell? ⟨n5, 0, none⟩ = some (.int .i64 o.k) ∧ W'.cell? ⟨n5, 1, none⟩ = some (.int .i64 o.r) ∧ W'.cell? ⟨n5, 2, none⟩ = some (.int .i64 o.o) ∧ W'.cell? ⟨n5, 3, none⟩ = some (.int .i64 o.n) ∧ W'.cell? ⟨n5, 4, none⟩ = some (.string o.s) ∧ W'.cell? ⟨n5, 5, none⟩ = some (.int .i64 o.w) ∧ W'.cell? ⟨n5, 6, none⟩ = some (.int .i64 o.h) ∧ W'.cell? ⟨n5, 7, none⟩ = some (.int .i64 o.t) ∧ W'.cell? ⟨n5, 8, none⟩ = some (.int .i64 o.c) ∧ W'.cell? ⟨n5, 9, none⟩ = some (.int .i64 o.i) ∧ W'.cell? ⟨n6, 0, none⟩ = some (.int .i64 o.k) ∧ W'.cell? ⟨n6, 1, none⟩ = some (.int .i64 o.r) ∧ W'.cell? ⟨n6, 2, none⟩ = some (.int .i64 o.o) ∧ W'.cell? ⟨n6, 3, none⟩ = some (.int .i64 o.n) ∧ W'.cell? ⟨n6, 4, none⟩ = some (.string o.s) ∧ W'.cell? ⟨n6, 5, none⟩ = some (.int .i64 o.w) ∧ W'.cell? ⟨n6, 6, none⟩ = some (.int .i64 o.h) ∧ W'.cell? ⟨n6, 7, none⟩ = some (.int .i64 o.t) ∧ W'.cell? ⟨n6, 8, none⟩ = some (.int .i64 o.c) ∧ W'.cell? ⟨n6, 9, none⟩ = some (.int .i64 o.i) ∧ W'.cell? ⟨n6, 10, none⟩ = some (.bool false) ∧ W'.heap[n₀]? = some (.cells #[.int .i64 x.k, .int .i64 x.r, .int .i64 x.o, .int .i64 x.n, .string x.s, .int .i64 x.w, .int .i64 x.h, .int .i64 x.t, .int .i64 x.c, .int .i64 x.i] 25 (0, 0)) ∧ W'.heap[n₀ + 1]? = some (.cells #[.int .i64 y.k, .int .i64 y.r, .int .i64 y.o, .int .i64 y.n, .string y.s, .int .i64 y.w, .int .i64 y.h, .int .i64 y.t, .int .i64 y.c, .int .i64 y.i] 25 (0, 0)) ∧ W'.heap[n5]? = some (.cells #[.int .i64 o.k, .int .i64 o.r, .int .i64 o.o, .int .i64 o.n, .string o.s, .int .i64 o.w, .int .i64 o.h, .int .i64 o.t, .int .i64 o.c, .int .i64 o.i] 25 (0, 0)) ∧ W'.heap[n6]? = some (.cells #[.int .i64 o.k, .int .i64 o.r, .int .i64 o.o, .int .i64 o.n, .string o.s, .int .i64 o.w, .int .i64 o.h, .int .i64 o.t, .int .i64 o.c, .int .i64 o.i, .bool false] 31 (0, 0)) ∧ Below n₀ w W')) := hid (by rintro W W' ⟨r0, r1, r2, r3, r4, r5, r6, r7, r8, r9, r10, r11, r12, r13, r14, r15, r16, r17, r18, r19, r20, r21, r22, r23, r24, r25, r26, r27, r28, r29, r30, r31, r32, r33, r34, r35, r36, r37, r38, r39, r40, p1, p2, p3, p4, pB⟩ hb9; have kk9 := Kept.of_below hb9 0; exact ⟨kk9.cell r0, kk9.cell r1, kk9.cell r2, kk9.cell r3, kk9.cell r4, kk9.cell r5, kk9.cell r6, kk9.cell r7, kk9.cell r8, kk9.cell r9, kk9.cell r10, kk9.cell r11, kk9.cell r12, kk9.cell r13, kk9.cell r14, kk9.cell r15, kk9.cell r16, kk9.cell r17, kk9.cell r18, kk9.cell r19, kk9.cell r20, kk9.cell r21, kk9.cell r22, kk9.cell r23, kk9.cell r24, kk9.cell r25, kk9.cell r26, kk9.cell r27, kk9.cell r28, kk9.cell r29, kk9.cell r30, kk9.cell r31, kk9.cell r32, kk9.cell r33, kk9.cell r34, kk9.cell r35, kk9.cell r36, kk9.cell r37, kk9.cell r38, kk9.cell r39, kk9.cell r40, kk9.same _ _ p1 (.inl rfl), kk9.same _ _ p2 (.inl rfl), kk9.same _ _ p3 (.inl rfl), kk9.same _ _ p4 (.inl rfl), pB.trans (hb9.mono (by have := pB.size; omega))⟩)
            have fS : Hid (∀ W : World, (W.cell? ⟨n₀, 0, none⟩ = some (.int .i64 x.k) ∧ W.cell? ⟨n₀, 1, none⟩ = some (.int .i64 x.r) ∧ W.cell? ⟨n₀, 2, none⟩ = some (.int .i64 x.o) ∧ W.cell? ⟨n₀, 3, none⟩ = some (.int .i64 x.n) ∧ W.cell? ⟨n₀, 4, none⟩ = some (.string x.s) ∧ W.cell? ⟨n₀, 5, none⟩ = some (.int .i64 x.w) ∧ W.cell? ⟨n₀, 6, none⟩ = some (.int .i64 x.h) ∧ W.cell? ⟨n₀, 7, none⟩ = some (.int .i64 x.t) ∧ W.cell? ⟨n₀, 8, none⟩ = some (.int .i64 x.c) ∧ W.cell? ⟨n₀, 9, none⟩ = some (.int .i64 x.i) ∧ W.cell? ⟨n₀ + 1, 0, none⟩ = some (.int .i64 y.k) ∧ W.cell? ⟨n₀ + 1, 1, none⟩ = some (.int .i64 y.r) ∧ W.cell? ⟨n₀ + 1, 2, none⟩ = some (.int .i64 y.o) ∧ W.cell? ⟨n₀ + 1, 3, none⟩ = some (.int .i64 y.n) ∧ W.cell? ⟨n₀ + 1, 4, none⟩ = some (.string y.s) ∧ W.cell? ⟨n₀ + 1, 5, none⟩ = some (.int .i64 y.w) ∧ W.cell? ⟨n₀ + 1, 6, none⟩ = some (.int .i64 y.h) ∧ W.cell? ⟨n₀ + 1, 7, none⟩ = some (.int .i64 y.t) ∧ W.cell? ⟨n₀ + 1, 8, none⟩ = some (.int .i64 y.c) ∧ W.cell? ⟨n₀ + 1, 9, none⟩ = some (.int .i64 y.i) ∧ W.cell? ⟨n5, 0, none⟩ = some (.int .i64 o.k) ∧ W.cell? ⟨n5, 1, none⟩ = some (.int .i64 o.r) ∧ W.cell? ⟨n5, 2, none⟩ = some (.int .i64 o.o) ∧ W.cell? ⟨n5, 3, none⟩ = some (.int .i64 o.n) ∧ W.cell? ⟨n5, 4, none⟩ = some (.string o.s) ∧ W.cell? ⟨n5, 5, none⟩ = some (.int .i64 o.w) ∧ W.cell? ⟨n5, 6, none⟩ = some (.int .i64 o.h) ∧ W.cell? ⟨n5, 7, none⟩ = some (.int .i64 o.t) ∧ W.cell? ⟨n5, 8, none⟩ = some (.int .i64 o.c) ∧ W.cell? ⟨n5, 9, none⟩ = some (.int .i64 o.i) ∧ W.cell? ⟨n6, 0, none⟩ = some (.int .i64 o.k) ∧ W.cell? ⟨n6, 1, none⟩ = some (.int .i64 o.r) ∧ W.cell? ⟨n6, 2, none⟩ = some (.int .i64 o.o) ∧ W.cell? ⟨n6, 3, none⟩ = some (.int .i64 o.n) ∧ W.cell? ⟨n6, 4, none⟩ = some (.string o.s) ∧ W.cell? ⟨n6, 5, none⟩ = some (.int .i64 o.w) ∧ W.cell? ⟨n6, 6, none⟩ = some (.int .i64 o.h) ∧ W.cell? ⟨n6, 7, none⟩ = some (.int .i64 o.t) ∧ W.cell? ⟨n6, 8, none⟩ = some (.int .i64 o.c) ∧ W.cell? ⟨n6, 9, none⟩ = some (.int .i64 o.i) ∧ W.cell? ⟨n6, 10, none⟩ = some (.bool false) ∧ W.heap[n₀]? = some (.cells #[.int .i64 x.k, .int .i64 x.r, .int .i64 x.o, .int .i64 x.n, .string x.s, .int .i64 x.w, .int .i64 x.h, .int .i64 x.t, .int .i64 x.c, .int .i64 x.i] 25 (0, 0)) ∧ W.heap[n₀ + 1]? = some (.cells #[.int .i64 y.k, .int .i64 y.r, .int .i64 y.o, .int .i64 y.n, .string y.s, .int .i64 y.w, .int .i64 y.h, .int .i64 y.t, .int .i64 y.c, .int .i64 y.i] 25 (0, 0)) ∧ W.heap[n5]? = some (.cells #[.int .i64 o.k, .int .i64 o.r, .int .i64 o.o, .int .i64 o.n, .string o.s, .int .i64 o.w, .int .i64 o.h, .int .i64 o.t, .int .i64 o.c, .int .i64 o.i] 25 (0, 0)) ∧ W.heap[n6]? = some (.cells #[.int .i64 o.k, .int .i64 o.r, .int .i64 o.o, .int .i64 o.n, .string o.s, .int .i64 o.w, .int .i64 o.h, .int .i64 o.t, .int .i64 o.c, .int .i64 o.i, .bool false] 31 (0, 0)) ∧ Below n₀ w W) → Below n₀ w W) := hid (by rintro W ⟨r0, r1, r2, r3, r4, r5, r6, r7, r8, r9, r10, r11, r12, r13, r14, r15, r16, r17, r18, r19, r20, r21, r22, r23, r24, r25, r26, r27, r28, r29, r30, r31, r32, r33, r34, r35, r36, r37, r38, r39, r40, p1, p2, p3, p4, pB⟩; exact pB)
            have st : Hid (w4.drew.cell? ⟨n₀, 0, none⟩ = some (.int .i64 x.k) ∧ w4.drew.cell? ⟨n₀, 1, none⟩ = some (.int .i64 x.r) ∧ w4.drew.cell? ⟨n₀, 2, none⟩ = some (.int .i64 x.o) ∧ w4.drew.cell? ⟨n₀, 3, none⟩ = some (.int .i64 x.n) ∧ w4.drew.cell? ⟨n₀, 4, none⟩ = some (.string x.s) ∧ w4.drew.cell? ⟨n₀, 5, none⟩ = some (.int .i64 x.w) ∧ w4.drew.cell? ⟨n₀, 6, none⟩ = some (.int .i64 x.h) ∧ w4.drew.cell? ⟨n₀, 7, none⟩ = some (.int .i64 x.t) ∧ w4.drew.cell? ⟨n₀, 8, none⟩ = some (.int .i64 x.c) ∧ w4.drew.cell? ⟨n₀, 9, none⟩ = some (.int .i64 x.i) ∧ w4.drew.cell? ⟨n₀ + 1, 0, none⟩ = some (.int .i64 y.k) ∧ w4.drew.cell? ⟨n₀ + 1, 1, none⟩ = some (.int .i64 y.r) ∧ w4.drew.cell? ⟨n₀ + 1, 2, none⟩ = some (.int .i64 y.o) ∧ w4.drew.cell? ⟨n₀ + 1, 3, none⟩ = some (.int .i64 y.n) ∧ w4.drew.cell? ⟨n₀ + 1, 4, none⟩ = some (.string y.s) ∧ w4.drew.cell? ⟨n₀ + 1, 5, none⟩ = some (.int .i64 y.w) ∧ w4.drew.cell? ⟨n₀ + 1, 6, none⟩ = some (.int .i64 y.h) ∧ w4.drew.cell? ⟨n₀ + 1, 7, none⟩ = some (.int .i64 y.t) ∧ w4.drew.cell? ⟨n₀ + 1, 8, none⟩ = some (.int .i64 y.c) ∧ w4.drew.cell? ⟨n₀ + 1, 9, none⟩ = some (.int .i64 y.i) ∧ w4.drew.cell? ⟨n5, 0, none⟩ = some (.int .i64 o.k) ∧ w4.drew.cell? ⟨n5, 1, none⟩ = some (.int .i64 o.r) ∧ w4.drew.cell? ⟨n5, 2, none⟩ = some (.int .i64 o.o) ∧ w4.drew.cell? ⟨n5, 3, none⟩ = some (.int .i64 o.n) ∧ w4.drew.cell? ⟨n5, 4, none⟩ = some (.string o.s) ∧ w4.drew.cell? ⟨n5, 5, none⟩ = some (.int .i64 o.w) ∧ w4.drew.cell? ⟨n5, 6, none⟩ = some (.int .i64 o.h) ∧ w4.drew.cell? ⟨n5, 7, none⟩ = some (.int .i64 o.t) ∧ w4.drew.cell? ⟨n5, 8, none⟩ = some (.int .i64 o.c) ∧ w4.drew.cell? ⟨n5, 9, none⟩ = some (.int .i64 o.i) ∧ w4.drew.cell? ⟨n6, 0, none⟩ = some (.int .i64 o.k) ∧ w4.drew.cell? ⟨n6, 1, none⟩ = some (.int .i64 o.r) ∧ w4.drew.cell? ⟨n6, 2, none⟩ = some (.int .i64 o.o) ∧ w4.drew.cell? ⟨n6, 3, none⟩ = some (.int .i64 o.n) ∧ w4.drew.cell? ⟨n6, 4, none⟩ = some (.string o.s) ∧ w4.drew.cell? ⟨n6, 5, none⟩ = some (.int .i64 o.w) ∧ w4.drew.cell? ⟨n6, 6, none⟩ = some (.int .i64 o.h) ∧ w4.drew.cell? ⟨n6, 7, none⟩ = some (.int .i64 o.t) ∧ w4.drew.cell? ⟨n6, 8, none⟩ = some (.int .i64 o.c) ∧ w4.drew.cell? ⟨n6, 9, none⟩ = some (.int .i64 o.i) ∧ w4.drew.cell? ⟨n6, 10, none⟩ = some (.bool false) ∧ w4.drew.heap[n₀]? = some (.cells #[.int .i64 x.k, .int .i64 x.r, .int .i64 x.o, .int .i64 x.n, .string x.s, .int .i64 x.w, .int .i64 x.h, .int .i64 x.t, .int .i64 x.c, .int .i64 x.i] 25 (0, 0)) ∧ w4.drew.heap[n₀ + 1]? = some (.cells #[.int .i64 y.k, .int .i64 y.r, .int .i64 y.o, .int .i64 y.n, .string y.s, .int .i64 y.w, .int .i64 y.h, .int .i64 y.t, .int .i64 y.c, .int .i64 y.i] 25 (0, 0)) ∧ w4.drew.heap[n5]? = some (.cells #[.int .i64 o.k, .int .i64 o.r, .int .i64 o.o, .int .i64 o.n, .string o.s, .int .i64 o.w, .int .i64 o.h, .int .i64 o.t, .int .i64 o.c, .int .i64 o.i] 25 (0, 0)) ∧ w4.drew.heap[n6]? = some (.cells #[.int .i64 o.k, .int .i64 o.r, .int .i64 o.o, .int .i64 o.n, .string o.s, .int .i64 o.w, .int .i64 o.h, .int .i64 o.t, .int .i64 o.c, .int .i64 o.i, .bool false] 31 (0, 0)) ∧ Below n₀ w w4.drew) := hid ⟨cell_blk (i := 0) (show w4.drew.heap[n₀]? = _ from x4) rfl, cell_blk (i := 1) (show w4.drew.heap[n₀]? = _ from x4) rfl, cell_blk (i := 2) (show w4.drew.heap[n₀]? = _ from x4) rfl, cell_blk (i := 3) (show w4.drew.heap[n₀]? = _ from x4) rfl, cell_blk (i := 4) (show w4.drew.heap[n₀]? = _ from x4) rfl, cell_blk (i := 5) (show w4.drew.heap[n₀]? = _ from x4) rfl, cell_blk (i := 6) (show w4.drew.heap[n₀]? = _ from x4) rfl, cell_blk (i := 7) (show w4.drew.heap[n₀]? = _ from x4) rfl, cell_blk (i := 8) (show w4.drew.heap[n₀]? = _ from x4) rfl, cell_blk (i := 9) (show w4.drew.heap[n₀]? = _ from x4) rfl, cell_blk (i := 0) (show w4.drew.heap[n₀ + 1]? = _ from yy4) rfl, cell_blk (i := 1) (show w4.drew.heap[n₀ + 1]? = _ from yy4) rfl, cell_blk (i := 2) (show w4.drew.heap[n₀ + 1]? = _ from yy4) rfl, cell_blk (i := 3) (show w4.drew.heap[n₀ + 1]? = _ from yy4) rfl, cell_blk (i := 4) (show w4.drew.heap[n₀ + 1]? = _ from yy4) rfl, cell_blk (i := 5) (show w4.drew.heap[n₀ + 1]? = _ from yy4) rfl, cell_blk (i := 6) (show w4.drew.heap[n₀ + 1]? = _ from yy4) rfl, cell_blk (i := 7) (show w4.drew.heap[n₀ + 1]? = _ from yy4) rfl, cell_blk (i := 8) (show w4.drew.heap[n₀ + 1]? = _ from yy4) rfl, cell_blk (i := 9) (show w4.drew.heap[n₀ + 1]? = _ from yy4) rfl, cell_blk (i := 0) (show w4.drew.heap[n5]? = _ from o4) rfl, cell_blk (i := 1) (show w4.drew.heap[n5]? = _ from o4) rfl, cell_blk (i := 2) (show w4.drew.heap[n5]? = _ from o4) rfl, cell_blk (i := 3) (show w4.drew.heap[n5]? = _ from o4) rfl, cell_blk (i := 4) (show w4.drew.heap[n5]? = _ from o4) rfl, cell_blk (i := 5) (show w4.drew.heap[n5]? = _ from o4) rfl, cell_blk (i := 6) (show w4.drew.heap[n5]? = _ from o4) rfl, cell_blk (i := 7) (show w4.drew.heap[n5]? = _ from o4) rfl, cell_blk (i := 8) (show w4.drew.heap[n5]? = _ from o4) rfl, cell_blk (i := 9) (show w4.drew.heap[n5]? = _ from o4) rfl, cell_blk (i := 0) (show w4.drew.heap[n6]? = _ from g4) rfl, cell_blk (i := 1) (show w4.drew.heap[n6]? = _ from g4) rfl, cell_blk (i := 2) (show w4.drew.heap[n6]? = _ from g4) rfl, cell_blk (i := 3) (show w4.drew.heap[n6]? = _ from g4) rfl, cell_blk (i := 4) (show w4.drew.heap[n6]? = _ from g4) rfl, cell_blk (i := 5) (show w4.drew.heap[n6]? = _ from g4) rfl, cell_blk (i := 6) (show w4.drew.heap[n6]? = _ from g4) rfl, cell_blk (i := 7) (show w4.drew.heap[n6]? = _ from g4) rfl, cell_blk (i := 8) (show w4.drew.heap[n6]? = _ from g4) rfl, cell_blk (i := 9) (show w4.drew.heap[n6]? = _ from g4) rfl, cell_blk (i := 10) (show w4.drew.heap[n6]? = _ from g4) rfl, x4, yy4, o4, g4, B4.drewN 1⟩
            clear x4 yy4 o4 g4 B4
            refine wp_region_held_drew (S := (fun W => W.cell? ⟨n₀, 0, none⟩ = some (.int .i64 x.k) ∧ W.cell? ⟨n₀, 1, none⟩ = some (.int .i64 x.r) ∧ W.cell? ⟨n₀, 2, none⟩ = some (.int .i64 x.o) ∧ W.cell? ⟨n₀, 3, none⟩ = some (.int .i64 x.n) ∧ W.cell? ⟨n₀, 4, none⟩ = some (.string x.s) ∧ W.cell? ⟨n₀, 5, none⟩ = some (.int .i64 x.w) ∧ W.cell? ⟨n₀, 6, none⟩ = some (.int .i64 x.h) ∧ W.cell? ⟨n₀, 7, none⟩ = some (.int .i64 x.t) ∧ W.cell? ⟨n₀, 8, none⟩ = some (.int .i64 x.c) ∧ W.cell? ⟨n₀, 9, none⟩ = some (.int .i64 x.i) ∧ W.cell? ⟨n₀ + 1, 0, none⟩ = some (.int .i64 y.k) ∧ W.cell? ⟨n₀ + 1, 1, none⟩ = some (.int .i64 y.r) ∧ W.cell? ⟨n₀ + 1, 2, none⟩ = some (.int .i64 y.o) ∧ W.cell? ⟨n₀ + 1, 3, none⟩ = some (.int .i64 y.n) ∧ W.cell? ⟨n₀ + 1, 4, none⟩ = some (.string y.s) ∧ W.cell? ⟨n₀ + 1, 5, none⟩ = some (.int .i64 y.w) ∧ W.cell? ⟨n₀ + 1, 6, none⟩ = some (.int .i64 y.h) ∧ W.cell? ⟨n₀ + 1, 7, none⟩ = some (.int .i64 y.t) ∧ W.cell? ⟨n₀ + 1, 8, none⟩ = some (.int .i64 y.c) ∧ W.cell? ⟨n₀ + 1, 9, none⟩ = some (.int .i64 y.i) ∧ W.cell? ⟨n5, 0, none⟩ = some (.int .i64 o.k) ∧ W.cell? ⟨n5, 1, none⟩ = some (.int .i64 o.r) ∧ W.cell? ⟨n5, 2, none⟩ = some (.int .i64 o.o) ∧ W.cell? ⟨n5, 3, none⟩ = some (.int .i64 o.n) ∧ W.cell? ⟨n5, 4, none⟩ = some (.string o.s) ∧ W.cell? ⟨n5, 5, none⟩ = some (.int .i64 o.w) ∧ W.cell? ⟨n5, 6, none⟩ = some (.int .i64 o.h) ∧ W.cell? ⟨n5, 7, none⟩ = some (.int .i64 o.t) ∧ W.cell? ⟨n5, 8, none⟩ = some (.int .i64 o.c) ∧ W.cell? ⟨n5, 9, none⟩ = some (.int .i64 o.i) ∧ W.cell? ⟨n6, 0, none⟩ = some (.int .i64 o.k) ∧ W.cell? ⟨n6, 1, none⟩ = some (.int .i64 o.r) ∧ W.cell? ⟨n6, 2, none⟩ = some (.int .i64 o.o) ∧ W.cell? ⟨n6, 3, none⟩ = some (.int .i64 o.n) ∧ W.cell? ⟨n6, 4, none⟩ = some (.string o.s) ∧ W.cell? ⟨n6, 5, none⟩ = some (.int .i64 o.w) ∧ W.cell? ⟨n6, 6, none⟩ = some (.int .i64 o.h) ∧ W.cell? ⟨n6, 7, none⟩ = some (.int .i64 o.t) ∧ W.cell? ⟨n6, 8, none⟩ = some (.int .i64 o.c) ∧ W.cell? ⟨n6, 9, none⟩ = some (.int .i64 o.i) ∧ W.cell? ⟨n6, 10, none⟩ = some (.bool false) ∧ W.heap[n₀]? = some (.cells #[.int .i64 x.k, .int .i64 x.r, .int .i64 x.o, .int .i64 x.n, .string x.s, .int .i64 x.w, .int .i64 x.h, .int .i64 x.t, .int .i64 x.c, .int .i64 x.i] 25 (0, 0)) ∧ W.heap[n₀ + 1]? = some (.cells #[.int .i64 y.k, .int .i64 y.r, .int .i64 y.o, .int .i64 y.n, .string y.s, .int .i64 y.w, .int .i64 y.h, .int .i64 y.t, .int .i64 y.c, .int .i64 y.i] 25 (0, 0)) ∧ W.heap[n5]? = some (.cells #[.int .i64 o.k, .int .i64 o.r, .int .i64 o.o, .int .i64 o.n, .string o.s, .int .i64 o.w, .int .i64 o.h, .int .i64 o.t, .int .i64 o.c, .int .i64 o.i] 25 (0, 0)) ∧ W.heap[n6]? = some (.cells #[.int .i64 o.k, .int .i64 o.r, .int .i64 o.o, .int .i64 o.n, .string o.s, .int .i64 o.w, .int .i64 o.h, .int .i64 o.t, .int .i64 o.c, .int .i64 o.i, .bool false] 31 (0, 0)) ∧ Below n₀ w W)) (by kernel_rfl) (Hid.out st) (fun hHeld => ?_)
            refine wpAnyH_take (i := 0) (oi := ⟨some 43, _, _, _, _, _⟩) (v := ?_) rfl (by kernel_rfl) (by kernel_rfl) (by kernel_rfl) (fun _ _ _ h => h) (Or.inl ⟨by rfl, ?_⟩) (by assumption) ?_
            rotate_left
            · intro w hSw; (try dsimp only at hSw); go_simp <;> with_reducible rfl
            try simp only [Act.put, List.setIfInBounds_toArray, List.set_cons_zero, List.set_cons_succ]
            refine wpAnyH_take (i := 1) (oi := ⟨some 44, _, _, _, _, _⟩) (v := ?_) rfl (by kernel_rfl) (by kernel_rfl) (by kernel_rfl) (fun _ _ _ h => h) (Or.inl ⟨by rfl, ?_⟩) (by assumption) ?_
            rotate_left
            · intro w hSw; (try dsimp only at hSw); go_simp <;> with_reducible rfl
            try simp only [Act.put, List.setIfInBounds_toArray, List.set_cons_zero, List.set_cons_succ]
            refine wpAnyH_take (i := 2) (oi := ⟨some 45, _, _, _, _, _⟩) (v := ?_) rfl (by kernel_rfl) (by kernel_rfl) (by kernel_rfl) (fun _ _ _ h => h) (Or.inl ⟨by rfl, ?_⟩) (by assumption) ?_
            rotate_left
            · intro w hSw; (try dsimp only at hSw); go_simp <;> with_reducible rfl
            try simp only [Act.put, List.setIfInBounds_toArray, List.set_cons_zero, List.set_cons_succ]
            refine wpAnyH_take (i := 3) (oi := ⟨some 46, _, _, _, _, _⟩) (v := ?_) rfl (by kernel_rfl) (by kernel_rfl) (by kernel_rfl) (fun _ _ _ h => h) (Or.inl ⟨by rfl, ?_⟩) (by assumption) ?_
            rotate_left
            · intro w hSw; (try dsimp only at hSw); go_simp <;> with_reducible rfl
            try simp only [Act.put, List.setIfInBounds_toArray, List.set_cons_zero, List.set_cons_succ]
            refine wpAnyH_take (i := 4) (oi := ⟨some 47, _, _, _, _, _⟩) (v := ?_) rfl (by kernel_rfl) (by kernel_rfl) (by kernel_rfl) (fun _ _ _ h => h) (Or.inl ⟨by rfl, ?_⟩) (by assumption) ?_
            rotate_left
            · intro w hSw; (try dsimp only at hSw); go_simp <;> with_reducible rfl
            try simp only [Act.put, List.setIfInBounds_toArray, List.set_cons_zero, List.set_cons_succ]
            refine wpAnyH_take (i := 5) (oi := ⟨some 48, _, _, _, _, _⟩) (v := ?_) rfl (by kernel_rfl) (by kernel_rfl) (by kernel_rfl) (fun _ _ _ h => h) (Or.inl ⟨by rfl, ?_⟩) (by assumption) ?_
            rotate_left
            · intro w hSw; (try dsimp only at hSw); go_simp <;> with_reducible rfl
            try simp only [Act.put, List.setIfInBounds_toArray, List.set_cons_zero, List.set_cons_succ]
            refine wpAnyH_take (i := 6) (oi := ⟨some 49, _, _, _, _, _⟩) (v := ?_) rfl (by kernel_rfl) (by kernel_rfl) (by kernel_rfl) (fun _ _ _ h => h) (Or.inl ⟨by rfl, ?_⟩) (by assumption) ?_
            rotate_left
            · intro w hSw; (try dsimp only at hSw); go_simp <;> with_reducible rfl
            try simp only [Act.put, List.setIfInBounds_toArray, List.set_cons_zero, List.set_cons_succ]
            refine wpAnyH_take (i := 7) (oi := ⟨some 50, _, _, _, _, _⟩) (v := ?_) rfl (by kernel_rfl) (by kernel_rfl) (by kernel_rfl) (fun _ _ _ h => h) (Or.inl ⟨by rfl, ?_⟩) (by assumption) ?_
            rotate_left
            · intro w hSw; (try dsimp only at hSw); go_simp <;> with_reducible rfl
            try simp only [Act.put, List.setIfInBounds_toArray, List.set_cons_zero, List.set_cons_succ]
            refine wpAnyH_take (i := 8) (oi := ⟨some 51, _, _, _, _, _⟩) (v := ?_) rfl (by kernel_rfl) (by kernel_rfl) (by kernel_rfl) (fun _ _ _ h => h) (Or.inl ⟨by rfl, ?_⟩) (by assumption) ?_
            rotate_left
            · intro w hSw; (try dsimp only at hSw); go_simp <;> with_reducible rfl
            try simp only [Act.put, List.setIfInBounds_toArray, List.set_cons_zero, List.set_cons_succ]
            refine wpAnyH_take (i := 9) (oi := ⟨some 52, _, _, _, _, _⟩) (v := ?_) rfl (by kernel_rfl) (by kernel_rfl) (by kernel_rfl) (fun _ _ _ h => h) (Or.inl ⟨by rfl, ?_⟩) (by assumption) ?_
            rotate_left
            · intro w hSw; (try dsimp only at hSw); go_simp <;> with_reducible rfl
            try simp only [Act.put, List.setIfInBounds_toArray, List.set_cons_zero, List.set_cons_succ]
            refine wpAnyH_take (i := 10) (oi := ⟨some 53, _, _, _, _, _⟩) (v := ?_) rfl (by kernel_rfl) (by kernel_rfl) (by kernel_rfl) (fun _ _ _ h => h) (Or.inl ⟨by rfl, ?_⟩) (by assumption) ?_
            rotate_left
            · intro w hSw; (try dsimp only at hSw); go_simp <;> with_reducible rfl
            try simp only [Act.put, List.setIfInBounds_toArray, List.set_cons_zero, List.set_cons_succ]
            refine wpAnyH_take (i := 11) (oi := ⟨some 54, _, _, _, _, _⟩) (v := ?_) rfl (by kernel_rfl) (by kernel_rfl) (by kernel_rfl) (fun _ _ _ h => h) (Or.inl ⟨by rfl, ?_⟩) (by assumption) ?_
            rotate_left
            · intro w hSw; (try dsimp only at hSw); go_simp <;> with_reducible rfl
            try simp only [Act.put, List.setIfInBounds_toArray, List.set_cons_zero, List.set_cons_succ]
            refine wpAnyH_take (i := 12) (oi := ⟨some 55, _, _, _, _, _⟩) (v := ?_) rfl (by kernel_rfl) (by kernel_rfl) (by kernel_rfl) (fun _ _ _ h => h) (Or.inl ⟨by rfl, ?_⟩) (by assumption) ?_
            rotate_left
            · intro w hSw; (try dsimp only at hSw); go_simp <;> with_reducible rfl
            try simp only [Act.put, List.setIfInBounds_toArray, List.set_cons_zero, List.set_cons_succ]
            refine wpAnyH_take (i := 13) (oi := ⟨some 56, _, _, _, _, _⟩) (v := ?_) rfl (by kernel_rfl) (by kernel_rfl) (by kernel_rfl) (fun _ _ _ h => h) (Or.inl ⟨by rfl, ?_⟩) (by assumption) ?_
            rotate_left
            · intro w hSw; (try dsimp only at hSw); go_simp <;> with_reducible rfl
            try simp only [Act.put, List.setIfInBounds_toArray, List.set_cons_zero, List.set_cons_succ]
            refine wpAnyH_take (i := 14) (oi := ⟨some 57, _, _, _, _, _⟩) (v := ?_) rfl (by kernel_rfl) (by kernel_rfl) (by kernel_rfl) (fun _ _ _ h => h) (Or.inl ⟨by rfl, ?_⟩) (by assumption) ?_
            rotate_left
            · intro w hSw; (try dsimp only at hSw); go_simp <;> with_reducible rfl
            try simp only [Act.put, List.setIfInBounds_toArray, List.set_cons_zero, List.set_cons_succ]
            refine wpAnyH_take (i := 15) (oi := ⟨some 58, _, _, _, _, _⟩) (v := ?_) rfl (by kernel_rfl) (by kernel_rfl) (by kernel_rfl) (fun _ _ _ h => h) (Or.inl ⟨by rfl, ?_⟩) (by assumption) ?_
            rotate_left
            · intro w hSw; (try dsimp only at hSw); go_simp <;> with_reducible rfl
            try simp only [Act.put, List.setIfInBounds_toArray, List.set_cons_zero, List.set_cons_succ]
            refine wpAnyH_take (i := 16) (oi := ⟨some 59, _, _, _, _, _⟩) (v := ?_) rfl (by kernel_rfl) (by kernel_rfl) (by kernel_rfl) (fun _ _ _ h => h) (Or.inl ⟨by rfl, ?_⟩) (by assumption) ?_
            rotate_left
            · intro w hSw; (try dsimp only at hSw); go_simp <;> with_reducible rfl
            try simp only [Act.put, List.setIfInBounds_toArray, List.set_cons_zero, List.set_cons_succ]
            refine wpAnyH_take (i := 17) (oi := ⟨some 60, _, _, _, _, _⟩) (v := ?_) rfl (by kernel_rfl) (by kernel_rfl) (by kernel_rfl) (fun _ _ _ h => h) (Or.inl ⟨by rfl, ?_⟩) (by assumption) ?_
            rotate_left
            · intro w hSw; (try dsimp only at hSw); go_simp <;> with_reducible rfl
            try simp only [Act.put, List.setIfInBounds_toArray, List.set_cons_zero, List.set_cons_succ]
            refine wpAnyH_take (i := 18) (oi := ⟨some 61, _, _, _, _, _⟩) (v := ?_) rfl (by kernel_rfl) (by kernel_rfl) (by kernel_rfl) (fun _ _ _ h => h) (Or.inl ⟨by rfl, ?_⟩) (by assumption) ?_
            rotate_left
            · intro w hSw; (try dsimp only at hSw); go_simp <;> with_reducible rfl
            try simp only [Act.put, List.setIfInBounds_toArray, List.set_cons_zero, List.set_cons_succ]
            refine wpAnyH_take (i := 19) (oi := ⟨some 62, _, _, _, _, _⟩) (v := ?_) rfl (by kernel_rfl) (by kernel_rfl) (by kernel_rfl) (fun _ _ _ h => h) (Or.inl ⟨by rfl, ?_⟩) (by assumption) ?_
            rotate_left
            · intro w hSw; (try dsimp only at hSw); go_simp <;> with_reducible rfl
            try simp only [Act.put, List.setIfInBounds_toArray, List.set_cons_zero, List.set_cons_succ]
            refine wpAnyH_take (i := 20) (oi := ⟨some 63, _, _, _, _, _⟩) (v := ?_) rfl (by kernel_rfl) (by kernel_rfl) (by kernel_rfl) (fun _ _ _ h => h) (Or.inl ⟨by rfl, ?_⟩) (by assumption) ?_
            rotate_left
            · intro w hSw; (try dsimp only at hSw); go_simp <;> with_reducible rfl
            try simp only [Act.put, List.setIfInBounds_toArray, List.set_cons_zero, List.set_cons_succ]
            refine wpAnyH_take (i := 21) (oi := ⟨some 64, _, _, _, _, _⟩) (v := ?_) rfl (by kernel_rfl) (by kernel_rfl) (by kernel_rfl) (fun _ _ _ h => h) (Or.inl ⟨by rfl, ?_⟩) (by assumption) ?_
            rotate_left
            · intro w hSw; (try dsimp only at hSw); go_simp <;> with_reducible rfl
            try simp only [Act.put, List.setIfInBounds_toArray, List.set_cons_zero, List.set_cons_succ]
            refine wpAnyH_take (i := 22) (oi := ⟨some 65, _, _, _, _, _⟩) (v := ?_) rfl (by kernel_rfl) (by kernel_rfl) (by kernel_rfl) (fun _ _ _ h => h) (Or.inl ⟨by rfl, ?_⟩) (by assumption) ?_
            rotate_left
            · intro w hSw; (try dsimp only at hSw); go_simp <;> with_reducible rfl
            try simp only [Act.put, List.setIfInBounds_toArray, List.set_cons_zero, List.set_cons_succ]
            refine wpAnyH_take (i := 23) (oi := ⟨some 66, _, _, _, _, _⟩) (v := ?_) rfl (by kernel_rfl) (by kernel_rfl) (by kernel_rfl) (fun _ _ _ h => h) (Or.inl ⟨by rfl, ?_⟩) (by assumption) ?_
            rotate_left
            · intro w hSw; (try dsimp only at hSw); go_simp <;> with_reducible rfl
            try simp only [Act.put, List.setIfInBounds_toArray, List.set_cons_zero, List.set_cons_succ]
            refine wpAnyH_take (i := 24) (oi := ⟨some 67, _, _, _, _, _⟩) (v := ?_) rfl (by kernel_rfl) (by kernel_rfl) (by kernel_rfl) (fun _ _ _ h => h) (Or.inl ⟨by rfl, ?_⟩) (by assumption) ?_
            rotate_left
            · intro w hSw; (try dsimp only at hSw); go_simp <;> with_reducible rfl
            try simp only [Act.put, List.setIfInBounds_toArray, List.set_cons_zero, List.set_cons_succ]
            refine wpAnyH_take (i := 25) (oi := ⟨some 68, _, _, _, _, _⟩) (v := ?_) rfl (by kernel_rfl) (by kernel_rfl) (by kernel_rfl) (fun _ _ _ h => h) (Or.inl ⟨by rfl, ?_⟩) (by assumption) ?_
            rotate_left
            · intro w hSw; (try dsimp only at hSw); go_simp <;> with_reducible rfl
            try simp only [Act.put, List.setIfInBounds_toArray, List.set_cons_zero, List.set_cons_succ]
            refine wpAnyH_take (i := 26) (oi := ⟨some 69, _, _, _, _, _⟩) (v := ?_) rfl (by kernel_rfl) (by kernel_rfl) (by kernel_rfl) (fun _ _ _ h => h) (Or.inl ⟨by rfl, ?_⟩) (by assumption) ?_
            rotate_left
            · intro w hSw; (try dsimp only at hSw); go_simp <;> with_reducible rfl
            try simp only [Act.put, List.setIfInBounds_toArray, List.set_cons_zero, List.set_cons_succ]
            refine wpAnyH_take (i := 27) (oi := ⟨some 70, _, _, _, _, _⟩) (v := ?_) rfl (by kernel_rfl) (by kernel_rfl) (by kernel_rfl) (fun _ _ _ h => h) (Or.inl ⟨by rfl, ?_⟩) (by assumption) ?_
            rotate_left
            · intro w hSw; (try dsimp only at hSw); go_simp <;> with_reducible rfl
            try simp only [Act.put, List.setIfInBounds_toArray, List.set_cons_zero, List.set_cons_succ]
            refine wpAnyH_take (i := 28) (oi := ⟨some 71, _, _, _, _, _⟩) (v := ?_) rfl (by kernel_rfl) (by kernel_rfl) (by kernel_rfl) (fun _ _ _ h => h) (Or.inl ⟨by rfl, ?_⟩) (by assumption) ?_
            rotate_left
            · intro w hSw; (try dsimp only at hSw); go_simp <;> with_reducible rfl
            try simp only [Act.put, List.setIfInBounds_toArray, List.set_cons_zero, List.set_cons_succ]
            refine wpAnyH_take (i := 29) (oi := ⟨some 72, _, _, _, _, _⟩) (v := ?_) rfl (by kernel_rfl) (by kernel_rfl) (by kernel_rfl) (fun _ _ _ h => h) (Or.inl ⟨by rfl, ?_⟩) (by assumption) ?_
            rotate_left
            · intro w hSw; (try dsimp only at hSw); go_simp <;> with_reducible rfl
            try simp only [Act.put, List.setIfInBounds_toArray, List.set_cons_zero, List.set_cons_succ]
            refine wpAnyH_take (i := 30) (oi := ⟨some 73, _, _, _, _, _⟩) (v := ?_) rfl (by kernel_rfl) (by kernel_rfl) (by kernel_rfl) (fun _ _ _ h => h) (Or.inl ⟨by rfl, ?_⟩) (by assumption) ?_
            rotate_left
            · intro w hSw; (try dsimp only at hSw); go_simp <;> with_reducible rfl
            try simp only [Act.put, List.setIfInBounds_toArray, List.set_cons_zero, List.set_cons_succ]
            refine wpAnyH_take (i := 31) (oi := ⟨some 74, _, _, _, _, _⟩) (v := ?_) rfl (by kernel_rfl) (by kernel_rfl) (by kernel_rfl) (fun _ _ _ h => h) (Or.inl ⟨by rfl, ?_⟩) (by assumption) ?_
            rotate_left
            · intro w hSw; (try dsimp only at hSw); go_simp <;> with_reducible rfl
            try simp only [Act.put, List.setIfInBounds_toArray, List.set_cons_zero, List.set_cons_succ]
            refine wpAnyH_take (i := 32) (oi := ⟨some 75, _, _, _, _, _⟩) (v := ?_) rfl (by kernel_rfl) (by kernel_rfl) (by kernel_rfl) (fun _ _ _ h => h) (Or.inl ⟨by rfl, ?_⟩) (by assumption) ?_
            rotate_left
            · intro w hSw; (try dsimp only at hSw); go_simp <;> with_reducible rfl
            try simp only [Act.put, List.setIfInBounds_toArray, List.set_cons_zero, List.set_cons_succ]
            refine wpAnyH_take (i := 33) (oi := ⟨some 76, _, _, _, _, _⟩) (v := ?_) rfl (by kernel_rfl) (by kernel_rfl) (by kernel_rfl) (fun _ _ _ h => h) (Or.inl ⟨by rfl, ?_⟩) (by assumption) ?_
            rotate_left
            · intro w hSw; (try dsimp only at hSw); go_simp <;> with_reducible rfl
            try simp only [Act.put, List.setIfInBounds_toArray, List.set_cons_zero, List.set_cons_succ]
            refine wpAnyH_take (i := 34) (oi := ⟨some 77, _, _, _, _, _⟩) (v := ?_) rfl (by kernel_rfl) (by kernel_rfl) (by kernel_rfl) (fun _ _ _ h => h) (Or.inl ⟨by rfl, ?_⟩) (by assumption) ?_
            rotate_left
            · intro w hSw; (try dsimp only at hSw); go_simp <;> with_reducible rfl
            try simp only [Act.put, List.setIfInBounds_toArray, List.set_cons_zero, List.set_cons_succ]
            refine wpAnyH_take (i := 35) (oi := ⟨some 78, _, _, _, _, _⟩) (v := ?_) rfl (by kernel_rfl) (by kernel_rfl) (by kernel_rfl) (fun _ _ _ h => h) (Or.inl ⟨by rfl, ?_⟩) (by assumption) ?_
            rotate_left
            · intro w hSw; (try dsimp only at hSw); go_simp <;> with_reducible rfl
            try simp only [Act.put, List.setIfInBounds_toArray, List.set_cons_zero, List.set_cons_succ]
            refine wpAnyH_take (i := 36) (oi := ⟨some 79, _, _, _, _, _⟩) (v := ?_) rfl (by kernel_rfl) (by kernel_rfl) (by kernel_rfl) (fun _ _ _ h => h) (Or.inl ⟨by rfl, ?_⟩) (by assumption) ?_
            rotate_left
            · intro w hSw; (try dsimp only at hSw); go_simp <;> with_reducible rfl
            try simp only [Act.put, List.setIfInBounds_toArray, List.set_cons_zero, List.set_cons_succ]
            refine wpAnyH_take (i := 37) (oi := ⟨some 80, _, _, _, _, _⟩) (v := ?_) rfl (by kernel_rfl) (by kernel_rfl) (by kernel_rfl) (fun _ _ _ h => h) (Or.inl ⟨by rfl, ?_⟩) (by assumption) ?_
            rotate_left
            · intro w hSw; (try dsimp only at hSw); go_simp <;> with_reducible rfl
            try simp only [Act.put, List.setIfInBounds_toArray, List.set_cons_zero, List.set_cons_succ]
            refine wpAnyH_take (i := 38) (oi := ⟨some 81, _, _, _, _, _⟩) (v := ?_) rfl (by kernel_rfl) (by kernel_rfl) (by kernel_rfl) (fun _ _ _ h => h) (Or.inl ⟨by rfl, ?_⟩) (by assumption) ?_
            rotate_left
            · intro w hSw; (try dsimp only at hSw); go_simp <;> with_reducible rfl
            try simp only [Act.put, List.setIfInBounds_toArray, List.set_cons_zero, List.set_cons_succ]
            refine wpAnyH_take (i := 39) (oi := ⟨some 82, _, _, _, _, _⟩) (v := ?_) rfl (by kernel_rfl) (by kernel_rfl) (by kernel_rfl) (fun _ _ _ h => h) (Or.inl ⟨by rfl, ?_⟩) (by assumption) ?_
            rotate_left
            · intro w hSw; (try dsimp only at hSw); go_simp <;> with_reducible rfl
            try simp only [Act.put, List.setIfInBounds_toArray, List.set_cons_zero, List.set_cons_succ]
            refine wpAnyH_take (i := 40) (oi := ⟨some 83, _, _, _, _, _⟩) (v := ?_) rfl (by kernel_rfl) (by kernel_rfl) (by kernel_rfl) (fun _ _ _ h => h) (Or.inl ⟨by rfl, ?_⟩) (by assumption) ?_
            rotate_left
            · intro w hSw; (try dsimp only at hSw); go_simp <;> with_reducible rfl
            try simp only [Act.put, List.setIfInBounds_toArray, List.set_cons_zero, List.set_cons_succ]
            refine wpAnyH_take (i := 41) (oi := ⟨some 84, _, _, _, _, _⟩) (v := ?_) rfl (by kernel_rfl) (by kernel_rfl) (by kernel_rfl) (fun _ _ _ h => h) (Or.inl ⟨by rfl, ?_⟩) (by assumption) ?_
            rotate_left
            · intro w hSw; (try dsimp only at hSw); go_simp <;> with_reducible rfl
            try simp only [Act.put, List.setIfInBounds_toArray, List.set_cons_zero, List.set_cons_succ]
            refine wpAnyH_take (i := 43) (oi := ⟨some 86, _, _, _, _, _⟩) (v := ?_) rfl (by kernel_rfl) (by kernel_rfl) (by kernel_rfl) (fun _ _ _ h => h) (Or.inl ⟨by rfl, ?_⟩) (by assumption) ?_
            rotate_left
            · intro w hSw; (try dsimp only at hSw); go_simp <;> with_reducible rfl
            try simp only [Act.put, List.setIfInBounds_toArray, List.set_cons_zero, List.set_cons_succ]
            refine wpAnyH_take (i := 44) (oi := ⟨some 87, _, _, _, _, _⟩) (v := ?_) rfl (by kernel_rfl) (by kernel_rfl) (by kernel_rfl) (fun _ _ _ h => h) (Or.inl ⟨by rfl, ?_⟩) (by assumption) ?_
            rotate_left
            · intro w hSw; (try dsimp only at hSw); go_simp <;> with_reducible rfl
            try simp only [Act.put, List.setIfInBounds_toArray, List.set_cons_zero, List.set_cons_succ]
            refine wpAnyH_take (i := 45) (oi := ⟨some 88, _, _, _, _, _⟩) (v := ?_) rfl (by kernel_rfl) (by kernel_rfl) (by kernel_rfl) (fun _ _ _ h => h) (Or.inl ⟨by rfl, ?_⟩) (by assumption) ?_
            rotate_left
            · intro w hSw; (try dsimp only at hSw); go_simp; exact sameIfs x y w
            try simp only [Act.put, List.setIfInBounds_toArray, List.set_cons_zero, List.set_cons_succ]
            refine wpAnyH_ready (rs := [42]) (by kernel_rfl) (by simp) ?_
            refine AllReadyH.cons rfl (fun K hK => ?_) AllReadyH.nil
            go_simp
            refine (cS.out _).mono ?_; rintro e w' ⟨rfl, hb9⟩
            try go_wp2_with fail
            refine hK.out _ _ (kS.out _ _ (by assumption) hb9) (fun hHeld => ?_)
            clear hK K
            try simp only [Act.put, List.setIfInBounds_toArray, List.set_cons_zero, List.set_cons_succ]
            refine wpAnyH_take (i := 46) (oi := ⟨some 89, _, _, _, _, _⟩) (v := ?_) rfl (by kernel_rfl) (by kernel_rfl) (by kernel_rfl) (fun _ _ _ h => h) (Or.inl ⟨by rfl, ?_⟩) (by assumption) ?_
            rotate_left
            · intro w hSw; (try dsimp only at hSw); go_simp <;> with_reducible rfl
            try simp only [Act.put, List.setIfInBounds_toArray, List.set_cons_zero, List.set_cons_succ]
            refine wpAnyH_take (i := 47) (oi := ⟨some 90, _, _, _, _, _⟩) (v := ?_) rfl (by kernel_rfl) (by kernel_rfl) (by kernel_rfl) (fun _ _ _ h => h) (Or.inl ⟨by rfl, ?_⟩) (by assumption) ?_
            rotate_left
            · intro w hSw; (try dsimp only at hSw); go_simp <;> with_reducible rfl
            try simp only [Act.put, List.setIfInBounds_toArray, List.set_cons_zero, List.set_cons_succ]
            refine wpAnyH_take (i := 48) (oi := ⟨some 91, _, _, _, _, _⟩) (v := ?_) rfl (by kernel_rfl) (by kernel_rfl) (by kernel_rfl) (fun _ _ _ h => h) (Or.inl ⟨by rfl, ?_⟩) (by assumption) ?_
            rotate_left
            · intro w hSw; (try dsimp only at hSw); go_simp <;> with_reducible rfl
            try simp only [Act.put, List.setIfInBounds_toArray, List.set_cons_zero, List.set_cons_succ]
            refine wpAnyH_ready (rs := [49]) (by kernel_rfl) (by simp) ?_
            refine AllReadyH.cons rfl (fun K hK => ?_) AllReadyH.nil
            go_simp
            refine (cW.out _ (fS.out _ (by assumption))).mono ?_; rintro e w' ⟨rfl, hb9⟩
            try go_wp2_with fail
            refine hK.out _ _ (kS.out _ _ (by assumption) hb9) (fun hHeld => ?_)
            clear hK K
            try simp only [Act.put, List.setIfInBounds_toArray, List.set_cons_zero, List.set_cons_succ]
            refine wpAnyH_take (i := 50) (oi := ⟨some 93, _, _, _, _, _⟩) (v := ?_) rfl (by kernel_rfl) (by kernel_rfl) (by kernel_rfl) (fun _ _ _ h => h) (Or.inl ⟨by rfl, ?_⟩) (by assumption) ?_
            rotate_left
            · intro w hSw; (try dsimp only at hSw); go_simp <;> with_reducible rfl
            try simp only [Act.put, List.setIfInBounds_toArray, List.set_cons_zero, List.set_cons_succ]
            refine wpAnyH_take (i := 51) (oi := ⟨some 6, _, _, _, _, _⟩) (v := ?_) rfl (by kernel_rfl) (by kernel_rfl) (by kernel_rfl) (fun _ _ _ h => h) (Or.inl ⟨by rfl, ?_⟩) (by assumption) ?_
            rotate_left
            · intro w hSw; (try dsimp only at hSw); go_simp <;> with_reducible rfl
            try simp only [Act.put, List.setIfInBounds_toArray, List.set_cons_zero, List.set_cons_succ]
            refine wpAnyH_done (by kernel_rfl) ?_ _
            go_wp2
            go_ret
            exact ⟨rfl, hn₀ ▸ fS.out _ (by assumption)⟩
          | some z =>
            obtain ⟨o, ho⟩ : ∃ o : OpB, op8 o = z := ⟨ofO z, ofO_op z⟩
            have hLv : (lineS s.data.toList = some (op8 o) ∧ true = true) ∨ (lineS s.data.toList = none ∧ o = zOp ∧ true = false) := .inl ⟨by rw [hL, ho], rfl⟩
            have cL := hid (Line_val s ((w.alloc (.cells #[.int .i64 x.k, .int .i64 x.r, .int .i64 x.o, .int .i64 x.n, .string x.s, .int .i64 x.w, .int .i64 x.h, .int .i64 x.t, .int .i64 x.c, .int .i64 x.i] 25)).alloc (.cells #[.int .i64 y.k, .int .i64 y.r, .int .i64 y.o, .int .i64 y.n, .string y.s, .int .i64 y.w, .int .i64 y.h, .int .i64 y.t, .int .i64 y.c, .int .i64 y.i] 25)) (by omega) (hT.below (hn₀ ▸ B2)) o 0 (.inl ⟨by rw [hL, ho], rfl⟩))
            have cRr := hid (fun W => rLine_val s W (by omega) o true hLv)
            have cTt := hid (fun (W : World) (h : Below n₀ w W) => Text_val x W hx (by omega) (hT.below (hn₀ ▸ h)) _ _ hTv)
            clear hLv hTv
            replace hTU := hid hTU
            replace ho := hid ho
            unfold opV opC at cL
            clear q4 p4
            replace hL := hid hL
            replace hX := hid hX
            go_enter Tryd.func3, Tryd.ntmps3
            go_wp2_with (fail)
            refine cL.out.mono ?_
            rintro e w1 ⟨rfl, b1⟩
            have x1 := (Kept.of_below b1 0).same _ _ x0 (.inl rfl)
            have yy1 := (Kept.of_below b1 0).same _ _ yy0 (.inl rfl)
            have B3 := B2.trans (b1.mono (by have := B2.size; omega))
            obtain ⟨n5, hn5⟩ : ∃ n, w1.heap.size = n := ⟨_, rfl⟩
            have o1 := World.alloc_heap_new w1 (.cells #[.int .i64 o.k, .int .i64 o.r, .int .i64 o.o, .int .i64 o.n, .string o.s, .int .i64 o.w, .int .i64 o.h, .int .i64 o.t, .int .i64 o.c, .int .i64 o.i] 25)
            rw [hn5] at o1
            have x1a := (Kept.alloc 0 w1 (.cells #[.int .i64 o.k, .int .i64 o.r, .int .i64 o.o, .int .i64 o.n, .string o.s, .int .i64 o.w, .int .i64 o.h, .int .i64 o.t, .int .i64 o.c, .int .i64 o.i] 25)).same _ _ x1 (.inl rfl)
            have yy1a := (Kept.alloc 0 w1 (.cells #[.int .i64 o.k, .int .i64 o.r, .int .i64 o.o, .int .i64 o.n, .string o.s, .int .i64 o.w, .int .i64 o.h, .int .i64 o.t, .int .i64 o.c, .int .i64 o.i] 25)).same _ _ yy1 (.inl rfl)
            have B3a := B3.alloc (by have := B3.size; omega) (.cells #[.int .i64 o.k, .int .i64 o.r, .int .i64 o.o, .int .i64 o.n, .string o.s, .int .i64 o.w, .int .i64 o.h, .int .i64 o.t, .int .i64 o.c, .int .i64 o.i] 25)
            have cR := hid (cRr.out (w1.alloc (.cells #[.int .i64 o.k, .int .i64 o.r, .int .i64 o.o, .int .i64 o.n, .string o.s, .int .i64 o.w, .int .i64 o.h, .int .i64 o.t, .int .i64 o.c, .int .i64 o.i] 25)))
            unfold gotC at cR
            clear cL b1 x1 yy1 B3
            go_wp2_with (fail)
            refine cR.out.mono ?_
            rintro e w2 ⟨rfl, b2⟩
            have x2 := (Kept.of_below b2 0).same _ _ x1a (.inl rfl)
            have yy2 := (Kept.of_below b2 0).same _ _ yy1a (.inl rfl)
            have o2 := (Kept.of_below b2 0).same _ _ o1 (.inl rfl)
            have B4' := B3a.trans (b2.mono (by have := B3a.size; omega))
            obtain ⟨n6, hn6⟩ : ∃ n, w2.heap.size = n := ⟨_, rfl⟩
            have g2 := World.alloc_heap_new w2 (.cells #[.int .i64 o.k, .int .i64 o.r, .int .i64 o.o, .int .i64 o.n, .string o.s, .int .i64 o.w, .int .i64 o.h, .int .i64 o.t, .int .i64 o.c, .int .i64 o.i, .bool true] 31)
            rw [hn6] at g2
            have x2a := (Kept.alloc 0 w2 (.cells #[.int .i64 o.k, .int .i64 o.r, .int .i64 o.o, .int .i64 o.n, .string o.s, .int .i64 o.w, .int .i64 o.h, .int .i64 o.t, .int .i64 o.c, .int .i64 o.i, .bool true] 31)).same _ _ x2 (.inl rfl)
            have yy2a := (Kept.alloc 0 w2 (.cells #[.int .i64 o.k, .int .i64 o.r, .int .i64 o.o, .int .i64 o.n, .string o.s, .int .i64 o.w, .int .i64 o.h, .int .i64 o.t, .int .i64 o.c, .int .i64 o.i, .bool true] 31)).same _ _ yy2 (.inl rfl)
            have o2a := (Kept.alloc 0 w2 (.cells #[.int .i64 o.k, .int .i64 o.r, .int .i64 o.o, .int .i64 o.n, .string o.s, .int .i64 o.w, .int .i64 o.h, .int .i64 o.t, .int .i64 o.c, .int .i64 o.i, .bool true] 31)).same _ _ o2 (.inl rfl)
            have B4a := B4'.alloc (by have := B4'.size; omega) (.cells #[.int .i64 o.k, .int .i64 o.r, .int .i64 o.o, .int .i64 o.n, .string o.s, .int .i64 o.w, .int .i64 o.h, .int .i64 o.t, .int .i64 o.c, .int .i64 o.i, .bool true] 31)
            have c0 : (w2.alloc (.cells #[.int .i64 o.k, .int .i64 o.r, .int .i64 o.o, .int .i64 o.n, .string o.s, .int .i64 o.w, .int .i64 o.h, .int .i64 o.t, .int .i64 o.c, .int .i64 o.i, .bool true] 31)).cell? ⟨n₀, 0, none⟩ = some (.int .i64 x.k) := cell_blk (i := 0) x2a rfl
            have c1 : (w2.alloc (.cells #[.int .i64 o.k, .int .i64 o.r, .int .i64 o.o, .int .i64 o.n, .string o.s, .int .i64 o.w, .int .i64 o.h, .int .i64 o.t, .int .i64 o.c, .int .i64 o.i, .bool true] 31)).cell? ⟨n₀, 1, none⟩ = some (.int .i64 x.r) := cell_blk (i := 1) x2a rfl
            have c2 : (w2.alloc (.cells #[.int .i64 o.k, .int .i64 o.r, .int .i64 o.o, .int .i64 o.n, .string o.s, .int .i64 o.w, .int .i64 o.h, .int .i64 o.t, .int .i64 o.c, .int .i64 o.i, .bool true] 31)).cell? ⟨n₀, 2, none⟩ = some (.int .i64 x.o) := cell_blk (i := 2) x2a rfl
            have c3 : (w2.alloc (.cells #[.int .i64 o.k, .int .i64 o.r, .int .i64 o.o, .int .i64 o.n, .string o.s, .int .i64 o.w, .int .i64 o.h, .int .i64 o.t, .int .i64 o.c, .int .i64 o.i, .bool true] 31)).cell? ⟨n₀, 3, none⟩ = some (.int .i64 x.n) := cell_blk (i := 3) x2a rfl
            have c4 : (w2.alloc (.cells #[.int .i64 o.k, .int .i64 o.r, .int .i64 o.o, .int .i64 o.n, .string o.s, .int .i64 o.w, .int .i64 o.h, .int .i64 o.t, .int .i64 o.c, .int .i64 o.i, .bool true] 31)).cell? ⟨n₀, 4, none⟩ = some (.string x.s) := cell_blk (i := 4) x2a rfl
            have c5 : (w2.alloc (.cells #[.int .i64 o.k, .int .i64 o.r, .int .i64 o.o, .int .i64 o.n, .string o.s, .int .i64 o.w, .int .i64 o.h, .int .i64 o.t, .int .i64 o.c, .int .i64 o.i, .bool true] 31)).cell? ⟨n₀, 5, none⟩ = some (.int .i64 x.w) := cell_blk (i := 5) x2a rfl
            have c6 : (w2.alloc (.cells #[.int .i64 o.k, .int .i64 o.r, .int .i64 o.o, .int .i64 o.n, .string o.s, .int .i64 o.w, .int .i64 o.h, .int .i64 o.t, .int .i64 o.c, .int .i64 o.i, .bool true] 31)).cell? ⟨n₀, 6, none⟩ = some (.int .i64 x.h) := cell_blk (i := 6) x2a rfl
            have c7 : (w2.alloc (.cells #[.int .i64 o.k, .int .i64 o.r, .int .i64 o.o, .int .i64 o.n, .string o.s, .int .i64 o.w, .int .i64 o.h, .int .i64 o.t, .int .i64 o.c, .int .i64 o.i, .bool true] 31)).cell? ⟨n₀, 7, none⟩ = some (.int .i64 x.t) := cell_blk (i := 7) x2a rfl
            have c8 : (w2.alloc (.cells #[.int .i64 o.k, .int .i64 o.r, .int .i64 o.o, .int .i64 o.n, .string o.s, .int .i64 o.w, .int .i64 o.h, .int .i64 o.t, .int .i64 o.c, .int .i64 o.i, .bool true] 31)).cell? ⟨n₀, 8, none⟩ = some (.int .i64 x.c) := cell_blk (i := 8) x2a rfl
            have c9 : (w2.alloc (.cells #[.int .i64 o.k, .int .i64 o.r, .int .i64 o.o, .int .i64 o.n, .string o.s, .int .i64 o.w, .int .i64 o.h, .int .i64 o.t, .int .i64 o.c, .int .i64 o.i, .bool true] 31)).cell? ⟨n₀, 9, none⟩ = some (.int .i64 x.i) := cell_blk (i := 9) x2a rfl
            have cT := hid (cTt.out (w2.alloc (.cells #[.int .i64 o.k, .int .i64 o.r, .int .i64 o.o, .int .i64 o.n, .string o.s, .int .i64 o.w, .int .i64 o.h, .int .i64 o.t, .int .i64 o.c, .int .i64 o.i, .bool true] 31)) B4a)
            unfold opV opC at cT
            clear cR b2 x1a yy1a o1 B3a x2 yy2 o2 B4'
            go_wp2_with (fail)
            refine cT.out.mono ?_
            rintro e w3 ⟨rfl, b3⟩
            have x3 := (Kept.of_below b3 0).same _ _ x2a (.inl rfl)
            have yy3 := (Kept.of_below b3 0).same _ _ yy2a (.inl rfl)
            have o3 := (Kept.of_below b3 0).same _ _ o2a (.inl rfl)
            have g3 := (Kept.of_below b3 0).same _ _ g2 (.inl rfl)
            have B5 := B4a.trans (b3.mono (by have := B4a.size; omega))
            have d0 : w3.cell? ⟨n₀, 0, none⟩ = some (.int .i64 x.k) := cell_blk (i := 0) x3 rfl
            have d1 : w3.cell? ⟨n₀, 1, none⟩ = some (.int .i64 x.r) := cell_blk (i := 1) x3 rfl
            have d2 : w3.cell? ⟨n₀, 2, none⟩ = some (.int .i64 x.o) := cell_blk (i := 2) x3 rfl
            have d3 : w3.cell? ⟨n₀, 3, none⟩ = some (.int .i64 x.n) := cell_blk (i := 3) x3 rfl
            have d4 : w3.cell? ⟨n₀, 4, none⟩ = some (.string x.s) := cell_blk (i := 4) x3 rfl
            have d5 : w3.cell? ⟨n₀, 5, none⟩ = some (.int .i64 x.w) := cell_blk (i := 5) x3 rfl
            have d6 : w3.cell? ⟨n₀, 6, none⟩ = some (.int .i64 x.h) := cell_blk (i := 6) x3 rfl
            have d7 : w3.cell? ⟨n₀, 7, none⟩ = some (.int .i64 x.t) := cell_blk (i := 7) x3 rfl
            have d8 : w3.cell? ⟨n₀, 8, none⟩ = some (.int .i64 x.c) := cell_blk (i := 8) x3 rfl
            have d9 : w3.cell? ⟨n₀, 9, none⟩ = some (.int .i64 x.i) := cell_blk (i := 9) x3 rfl
            have cU := hid (rText_any x w3 hx (by omega))
            rw [hTU.out] at cU
            unfold opV opC at cU
            clear cT b3 x2a yy2a o2a g2 B4a c0 c1 c2 c3 c4 c5 c6 c7 c8 c9
            go_wp2_with (fail)
            refine cU.out.mono ?_
            rintro e w4 ⟨rfl, b4⟩
            have x4 := (Kept.of_below b4 0).same _ _ x3 (.inl rfl)
            have yy4 := (Kept.of_below b4 0).same _ _ yy3 (.inl rfl)
            have o4 := (Kept.of_below b4 0).same _ _ o3 (.inl rfl)
            have g4 := (Kept.of_below b4 0).same _ _ g3 (.inl rfl)
            have B4 := B5.trans (b4.mono (by have := B5.size; omega))
            have cS := hid (fun V => Same_any x y V)
            unfold opV opC at cS
            have cW := hid (fun (V : World) (h : Below n₀ w V) => wakes_any V (hT.below (hn₀ ▸ h)))
            clear cU b4 x3 yy3 o3 g3 B5 d0 d1 d2 d3 d4 d5 d6 d7 d8 d9 hx hy hz0
            go_upto_region 7 with (fail)
            have kS : Hid (∀ W W' : World, (W.cell? ⟨n₀, 0, none⟩ = some (.int .i64 x.k) ∧ W.cell? ⟨n₀, 1, none⟩ = some (.int .i64 x.r) ∧ W.cell? ⟨n₀, 2, none⟩ = some (.int .i64 x.o) ∧ W.cell? ⟨n₀, 3, none⟩ = some (.int .i64 x.n) ∧ W.cell? ⟨n₀, 4, none⟩ = some (.string x.s) ∧ W.cell? ⟨n₀, 5, none⟩ = some (.int .i64 x.w) ∧ W.cell? ⟨n₀, 6, none⟩ = some (.int .i64 x.h) ∧ W.cell? ⟨n₀, 7, none⟩ = some (.int .i64 x.t) ∧ W.cell? ⟨n₀, 8, none⟩ = some (.int .i64 x.c) ∧ W.cell? ⟨n₀, 9, none⟩ = some (.int .i64 x.i) ∧ W.cell? ⟨n₀ + 1, 0, none⟩ = some (.int .i64 y.k) ∧ W.cell? ⟨n₀ + 1, 1, none⟩ = some (.int .i64 y.r) ∧ W.cell? ⟨n₀ + 1, 2, none⟩ = some (.int .i64 y.o) ∧ W.cell? ⟨n₀ + 1, 3, none⟩ = some (.int .i64 y.n) ∧ W.cell? ⟨n₀ + 1, 4, none⟩ = some (.string y.s) ∧ W.cell? ⟨n₀ + 1, 5, none⟩ = some (.int .i64 y.w) ∧ W.cell? ⟨n₀ + 1, 6, none⟩ = some (.int .i64 y.h) ∧ W.cell? ⟨n₀ + 1, 7, none⟩ = some (.int .i64 y.t) ∧ W.cell? ⟨n₀ + 1, 8, none⟩ = some (.int .i64 y.c) ∧ W.cell? ⟨n₀ + 1, 9, none⟩ = some (.int .i64 y.i) ∧ W.cell? ⟨n5, 0, none⟩ = some (.int .i64 o.k) ∧ W.cell? ⟨n5, 1, none⟩ = some (.int .i64 o.r) ∧ W.cell? ⟨n5, 2, none⟩ = some (.int .i64 o.o) ∧ W.cell? ⟨n5, 3, none⟩ = some (.int .i64 o.n) ∧ W.cell? ⟨n5, 4, none⟩ = some (.string o.s) ∧ W.cell? ⟨n5, 5, none⟩ = some (.int .i64 o.w) ∧ W.cell? ⟨n5, 6, none⟩ = some (.int .i64 o.h) ∧ W.cell? ⟨n5, 7, none⟩ = some (.int .i64 o.t) ∧ W.cell? ⟨n5, 8, none⟩ = some (.int .i64 o.c) ∧ W.cell? ⟨n5, 9, none⟩ = some (.int .i64 o.i) ∧ W.cell? ⟨n6, 0, none⟩ = some (.int .i64 o.k) ∧ W.cell? ⟨n6, 1, none⟩ = some (.int .i64 o.r) ∧ W.cell? ⟨n6, 2, none⟩ = some (.int .i64 o.o) ∧ W.cell? ⟨n6, 3, none⟩ = some (.int .i64 o.n) ∧ W.cell? ⟨n6, 4, none⟩ = some (.string o.s) ∧ W.cell? ⟨n6, 5, none⟩ = some (.int .i64 o.w) ∧ W.cell? ⟨n6, 6, none⟩ = some (.int .i64 o.h) ∧ W.cell? ⟨n6, 7, none⟩ = some (.int .i64 o.t) ∧ W.cell? ⟨n6, 8, none⟩ = some (.int .i64 o.c) ∧ W.cell? ⟨n6, 9, none⟩ = some (.int .i64 o.i) ∧ W.cell? ⟨n6, 10, none⟩ = some (.bool true) ∧ W.heap[n₀]? = some (.cells #[.int .i64 x.k, .int .i64 x.r, .int .i64 x.o, .int .i64 x.n, .string x.s, .int .i64 x.w, .int .i64 x.h, .int .i64 x.t, .int .i64 x.c, .int .i64 x.i] 25 (0, 0)) ∧ W.heap[n₀ + 1]? = some (.cells #[.int .i64 y.k, .int .i64 y.r, .int .i64 y.o, .int .i64 y.n, .string y.s, .int .i64 y.w, .int .i64 y.h, .int .i64 y.t, .int .i64 y.c, .int .i64 y.i] 25 (0, 0)) ∧ W.heap[n5]? = some (.cells #[.int .i64 o.k, .int .i64 o.r, .int .i64 o.o, .int .i64 o.n, .string o.s, .int .i64 o.w, .int .i64 o.h, .int .i64 o.t, .int .i64 o.c, .int .i64 o.i] 25 (0, 0)) ∧ W.heap[n6]? = some (.cells #[.int .i64 o.k, .int .i64 o.r, .int .i64 o.o, .int .i64 o.n, .string o.s, .int .i64 o.w, .int .i64 o.h, .int .i64 o.t, .int .i64 o.c, .int .i64 o.i, .bool true] 31 (0, 0)) ∧ Below n₀ w W) → Below W.heap.size W W' → (W'.cell? ⟨n₀, 0, none⟩ = some (.int .i64 x.k) ∧ W'.cell? ⟨n₀, 1, none⟩ = some (.int .i64 x.r) ∧ W'.cell? ⟨n₀, 2, none⟩ = some (.int .i64 x.o) ∧ W'.cell? ⟨n₀, 3, none⟩ = some (.int .i64 x.n) ∧ W'.cell? ⟨n₀, 4, none⟩ = some (.string x.s) ∧ W'.cell? ⟨n₀, 5, none⟩ = some (.int .i64 x.w) ∧ W'.cell? ⟨n₀, 6, none⟩ = some (.int .i64 x.h) ∧ W'.cell? ⟨n₀, 7, none⟩ = some (.int .i64 x.t) ∧ W'.cell? ⟨n₀, 8, none⟩ = some (.int .i64 x.c) ∧ W'.cell? ⟨n₀, 9, none⟩ = some (.int .i64 x.i) ∧ W'.cell? ⟨n₀ + 1, 0, none⟩ = some (.int .i64 y.k) ∧ W'.cell? ⟨n₀ + 1, 1, none⟩ = some (.int .i64 y.r) ∧ W'.cell? ⟨n₀ + 1, 2, none⟩ = some (.int .i64 y.o) ∧ W'.cell? ⟨n₀ + 1, 3, none⟩ = some (.int .i64 y.n) ∧ W'.cell? ⟨n₀ + 1, 4, none⟩ = some (.string y.s) ∧ W'.cell? ⟨n₀ + 1, 5, none⟩ = some (.int .i64 y.w) ∧ W'.cell? ⟨n₀ + 1, 6, none⟩ = some (.int .i64 y.h) ∧ W'.cell? ⟨n₀ + 1, 7, none⟩ = some (.int .i64 y.t) ∧ W'.cell? ⟨n₀ + 1, 8, none⟩ = some (.int .i64 y.c) ∧ W'.cell? ⟨n₀ + 1, 9, none⟩ = some (.int .i64 y.i) ∧ W'.cell? ⟨n5, 0, none⟩ = some (.int .i64 o.k) ∧ W'.cell? ⟨n5, 1, none⟩ = some (.int .i64 o.r) ∧ W'.cell? ⟨n5, 2, none⟩ = some (.int .i64 o.o) ∧ W'.cell? ⟨n5, 3, none⟩ = some (.int .i64 o.n) ∧ W'.cell? ⟨n5, 4, none⟩ = some (.string o.s) ∧ W'.cell? ⟨n5, 5, none⟩ = some (.int .i64 o.w) ∧ W'.cell? ⟨n5, 6, none⟩ = some (.int .i64 o.h) ∧ W'.cell? ⟨n5, 7, none⟩ = some (.int .i64 o.t) ∧ W'.cell? ⟨n5, 8, none⟩ = some (.int .i64 o.c) ∧ W'.cell? ⟨n5, 9, none⟩ = some (.int .i64 o.i) ∧ W'.cell? ⟨n6, 0, none⟩ = some (.int .i64 o.k) ∧ W'.cell? ⟨n6, 1, none⟩ = some (.int .i64 o.r) ∧ W'.cell? ⟨n6, 2, none⟩ = some (.int .i64 o.o) ∧ W'.cell? ⟨n6, 3, none⟩ = some (.int .i64 o.n) ∧ W'.cell? ⟨n6, 4, none⟩ = some (.string o.s) ∧ W'.cell? ⟨n6, 5, none⟩ = some (.int .i64 o.w) ∧ W'.cell? ⟨n6, 6, none⟩ = some (.int .i64 o.h) ∧ W'.cell? ⟨n6, 7, none⟩ = some (.int .i64 o.t) ∧ W'.cell? ⟨n6, 8, none⟩ = some (.int .i64 o.c) ∧ W'.cell? ⟨n6, 9, none⟩ = some (.int .i64 o.i) ∧ W'.cell? ⟨n6, 10, none⟩ = some (.bool true) ∧ W'.heap[n₀]? = some (.cells #[.int .i64 x.k, .int .i64 x.r, .int .i64 x.o, .int .i64 x.n, .string x.s, .int .i64 x.w, .int .i64 x.h, .int .i64 x.t, .int .i64 x.c, .int .i64 x.i] 25 (0, 0)) ∧ W'.heap[n₀ + 1]? = some (.cells #[.int .i64 y.k, .int .i64 y.r, .int .i64 y.o, .int .i64 y.n, .string y.s, .int .i64 y.w, .int .i64 y.h, .int .i64 y.t, .int .i64 y.c, .int .i64 y.i] 25 (0, 0)) ∧ W'.heap[n5]? = some (.cells #[.int .i64 o.k, .int .i64 o.r, .int .i64 o.o, .int .i64 o.n, .string o.s, .int .i64 o.w, .int .i64 o.h, .int .i64 o.t, .int .i64 o.c, .int .i64 o.i] 25 (0, 0)) ∧ W'.heap[n6]? = some (.cells #[.int .i64 o.k, .int .i64 o.r, .int .i64 o.o, .int .i64 o.n, .string o.s, .int .i64 o.w, .int .i64 o.h, .int .i64 o.t, .int .i64 o.c, .int .i64 o.i, .bool true] 31 (0, 0)) ∧ Below n₀ w W')) := hid (by rintro W W' ⟨r0, r1, r2, r3, r4, r5, r6, r7, r8, r9, r10, r11, r12, r13, r14, r15, r16, r17, r18, r19, r20, r21, r22, r23, r24, r25, r26, r27, r28, r29, r30, r31, r32, r33, r34, r35, r36, r37, r38, r39, r40, p1, p2, p3, p4, pB⟩ hb9; have kk9 := Kept.of_below hb9 0; exact ⟨kk9.cell r0, kk9.cell r1, kk9.cell r2, kk9.cell r3, kk9.cell r4, kk9.cell r5, kk9.cell r6, kk9.cell r7, kk9.cell r8, kk9.cell r9, kk9.cell r10, kk9.cell r11, kk9.cell r12, kk9.cell r13, kk9.cell r14, kk9.cell r15, kk9.cell r16, kk9.cell r17, kk9.cell r18, kk9.cell r19, kk9.cell r20, kk9.cell r21, kk9.cell r22, kk9.cell r23, kk9.cell r24, kk9.cell r25, kk9.cell r26, kk9.cell r27, kk9.cell r28, kk9.cell r29, kk9.cell r30, kk9.cell r31, kk9.cell r32, kk9.cell r33, kk9.cell r34, kk9.cell r35, kk9.cell r36, kk9.cell r37, kk9.cell r38, kk9.cell r39, kk9.cell r40, kk9.same _ _ p1 (.inl rfl), kk9.same _ _ p2 (.inl rfl), kk9.same _ _ p3 (.inl rfl), kk9.same _ _ p4 (.inl rfl), pB.trans (hb9.mono (by have := pB.size; omega))⟩)
            have fS : Hid (∀ W : World, (W.cell? ⟨n₀, 0, none⟩ = some (.int .i64 x.k) ∧ W.cell? ⟨n₀, 1, none⟩ = some (.int .i64 x.r) ∧ W.cell? ⟨n₀, 2, none⟩ = some (.int .i64 x.o) ∧ W.cell? ⟨n₀, 3, none⟩ = some (.int .i64 x.n) ∧ W.cell? ⟨n₀, 4, none⟩ = some (.string x.s) ∧ W.cell? ⟨n₀, 5, none⟩ = some (.int .i64 x.w) ∧ W.cell? ⟨n₀, 6, none⟩ = some (.int .i64 x.h) ∧ W.cell? ⟨n₀, 7, none⟩ = some (.int .i64 x.t) ∧ W.cell? ⟨n₀, 8, none⟩ = some (.int .i64 x.c) ∧ W.cell? ⟨n₀, 9, none⟩ = some (.int .i64 x.i) ∧ W.cell? ⟨n₀ + 1, 0, none⟩ = some (.int .i64 y.k) ∧ W.cell? ⟨n₀ + 1, 1, none⟩ = some (.int .i64 y.r) ∧ W.cell? ⟨n₀ + 1, 2, none⟩ = some (.int .i64 y.o) ∧ W.cell? ⟨n₀ + 1, 3, none⟩ = some (.int .i64 y.n) ∧ W.cell? ⟨n₀ + 1, 4, none⟩ = some (.string y.s) ∧ W.cell? ⟨n₀ + 1, 5, none⟩ = some (.int .i64 y.w) ∧ W.cell? ⟨n₀ + 1, 6, none⟩ = some (.int .i64 y.h) ∧ W.cell? ⟨n₀ + 1, 7, none⟩ = some (.int .i64 y.t) ∧ W.cell? ⟨n₀ + 1, 8, none⟩ = some (.int .i64 y.c) ∧ W.cell? ⟨n₀ + 1, 9, none⟩ = some (.int .i64 y.i) ∧ W.cell? ⟨n5, 0, none⟩ = some (.int .i64 o.k) ∧ W.cell? ⟨n5, 1, none⟩ = some (.int .i64 o.r) ∧ W.cell? ⟨n5, 2, none⟩ = some (.int .i64 o.o) ∧ W.cell? ⟨n5, 3, none⟩ = some (.int .i64 o.n) ∧ W.cell? ⟨n5, 4, none⟩ = some (.string o.s) ∧ W.cell? ⟨n5, 5, none⟩ = some (.int .i64 o.w) ∧ W.cell? ⟨n5, 6, none⟩ = some (.int .i64 o.h) ∧ W.cell? ⟨n5, 7, none⟩ = some (.int .i64 o.t) ∧ W.cell? ⟨n5, 8, none⟩ = some (.int .i64 o.c) ∧ W.cell? ⟨n5, 9, none⟩ = some (.int .i64 o.i) ∧ W.cell? ⟨n6, 0, none⟩ = some (.int .i64 o.k) ∧ W.cell? ⟨n6, 1, none⟩ = some (.int .i64 o.r) ∧ W.cell? ⟨n6, 2, none⟩ = some (.int .i64 o.o) ∧ W.cell? ⟨n6, 3, none⟩ = some (.int .i64 o.n) ∧ W.cell? ⟨n6, 4, none⟩ = some (.string o.s) ∧ W.cell? ⟨n6, 5, none⟩ = some (.int .i64 o.w) ∧ W.cell? ⟨n6, 6, none⟩ = some (.int .i64 o.h) ∧ W.cell? ⟨n6, 7, none⟩ = some (.int .i64 o.t) ∧ W.cell? ⟨n6, 8, none⟩ = some (.int .i64 o.c) ∧ W.cell? ⟨n6, 9, none⟩ = some (.int .i64 o.i) ∧ W.cell? ⟨n6, 10, none⟩ = some (.bool true) ∧ W.heap[n₀]? = some (.cells #[.int .i64 x.k, .int .i64 x.r, .int .i64 x.o, .int .i64 x.n, .string x.s, .int .i64 x.w, .int .i64 x.h, .int .i64 x.t, .int .i64 x.c, .int .i64 x.i] 25 (0, 0)) ∧ W.heap[n₀ + 1]? = some (.cells #[.int .i64 y.k, .int .i64 y.r, .int .i64 y.o, .int .i64 y.n, .string y.s, .int .i64 y.w, .int .i64 y.h, .int .i64 y.t, .int .i64 y.c, .int .i64 y.i] 25 (0, 0)) ∧ W.heap[n5]? = some (.cells #[.int .i64 o.k, .int .i64 o.r, .int .i64 o.o, .int .i64 o.n, .string o.s, .int .i64 o.w, .int .i64 o.h, .int .i64 o.t, .int .i64 o.c, .int .i64 o.i] 25 (0, 0)) ∧ W.heap[n6]? = some (.cells #[.int .i64 o.k, .int .i64 o.r, .int .i64 o.o, .int .i64 o.n, .string o.s, .int .i64 o.w, .int .i64 o.h, .int .i64 o.t, .int .i64 o.c, .int .i64 o.i, .bool true] 31 (0, 0)) ∧ Below n₀ w W) → Below n₀ w W) := hid (by rintro W ⟨r0, r1, r2, r3, r4, r5, r6, r7, r8, r9, r10, r11, r12, r13, r14, r15, r16, r17, r18, r19, r20, r21, r22, r23, r24, r25, r26, r27, r28, r29, r30, r31, r32, r33, r34, r35, r36, r37, r38, r39, r40, p1, p2, p3, p4, pB⟩; exact pB)
            have st : Hid (w4.drew.cell? ⟨n₀, 0, none⟩ = some (.int .i64 x.k) ∧ w4.drew.cell? ⟨n₀, 1, none⟩ = some (.int .i64 x.r) ∧ w4.drew.cell? ⟨n₀, 2, none⟩ = some (.int .i64 x.o) ∧ w4.drew.cell? ⟨n₀, 3, none⟩ = some (.int .i64 x.n) ∧ w4.drew.cell? ⟨n₀, 4, none⟩ = some (.string x.s) ∧ w4.drew.cell? ⟨n₀, 5, none⟩ = some (.int .i64 x.w) ∧ w4.drew.cell? ⟨n₀, 6, none⟩ = some (.int .i64 x.h) ∧ w4.drew.cell? ⟨n₀, 7, none⟩ = some (.int .i64 x.t) ∧ w4.drew.cell? ⟨n₀, 8, none⟩ = some (.int .i64 x.c) ∧ w4.drew.cell? ⟨n₀, 9, none⟩ = some (.int .i64 x.i) ∧ w4.drew.cell? ⟨n₀ + 1, 0, none⟩ = some (.int .i64 y.k) ∧ w4.drew.cell? ⟨n₀ + 1, 1, none⟩ = some (.int .i64 y.r) ∧ w4.drew.cell? ⟨n₀ + 1, 2, none⟩ = some (.int .i64 y.o) ∧ w4.drew.cell? ⟨n₀ + 1, 3, none⟩ = some (.int .i64 y.n) ∧ w4.drew.cell? ⟨n₀ + 1, 4, none⟩ = some (.string y.s) ∧ w4.drew.cell? ⟨n₀ + 1, 5, none⟩ = some (.int .i64 y.w) ∧ w4.drew.cell? ⟨n₀ + 1, 6, none⟩ = some (.int .i64 y.h) ∧ w4.drew.cell? ⟨n₀ + 1, 7, none⟩ = some (.int .i64 y.t) ∧ w4.drew.cell? ⟨n₀ + 1, 8, none⟩ = some (.int .i64 y.c) ∧ w4.drew.cell? ⟨n₀ + 1, 9, none⟩ = some (.int .i64 y.i) ∧ w4.drew.cell? ⟨n5, 0, none⟩ = some (.int .i64 o.k) ∧ w4.drew.cell? ⟨n5, 1, none⟩ = some (.int .i64 o.r) ∧ w4.drew.cell? ⟨n5, 2, none⟩ = some (.int .i64 o.o) ∧ w4.drew.cell? ⟨n5, 3, none⟩ = some (.int .i64 o.n) ∧ w4.drew.cell? ⟨n5, 4, none⟩ = some (.string o.s) ∧ w4.drew.cell? ⟨n5, 5, none⟩ = some (.int .i64 o.w) ∧ w4.drew.cell? ⟨n5, 6, none⟩ = some (.int .i64 o.h) ∧ w4.drew.cell? ⟨n5, 7, none⟩ = some (.int .i64 o.t) ∧ w4.drew.cell? ⟨n5, 8, none⟩ = some (.int .i64 o.c) ∧ w4.drew.cell? ⟨n5, 9, none⟩ = some (.int .i64 o.i) ∧ w4.drew.cell? ⟨n6, 0, none⟩ = some (.int .i64 o.k) ∧ w4.drew.cell? ⟨n6, 1, none⟩ = some (.int .i64 o.r) ∧ w4.drew.cell? ⟨n6, 2, none⟩ = some (.int .i64 o.o) ∧ w4.drew.cell? ⟨n6, 3, none⟩ = some (.int .i64 o.n) ∧ w4.drew.cell? ⟨n6, 4, none⟩ = some (.string o.s) ∧ w4.drew.cell? ⟨n6, 5, none⟩ = some (.int .i64 o.w) ∧ w4.drew.cell? ⟨n6, 6, none⟩ = some (.int .i64 o.h) ∧ w4.drew.cell? ⟨n6, 7, none⟩ = some (.int .i64 o.t) ∧ w4.drew.cell? ⟨n6, 8, none⟩ = some (.int .i64 o.c) ∧ w4.drew.cell? ⟨n6, 9, none⟩ = some (.int .i64 o.i) ∧ w4.drew.cell? ⟨n6, 10, none⟩ = some (.bool true) ∧ w4.drew.heap[n₀]? = some (.cells #[.int .i64 x.k, .int .i64 x.r, .int .i64 x.o, .int .i64 x.n, .string x.s, .int .i64 x.w, .int .i64 x.h, .int .i64 x.t, .int .i64 x.c, .int .i64 x.i] 25 (0, 0)) ∧ w4.drew.heap[n₀ + 1]? = some (.cells #[.int .i64 y.k, .int .i64 y.r, .int .i64 y.o, .int .i64 y.n, .string y.s, .int .i64 y.w, .int .i64 y.h, .int .i64 y.t, .int .i64 y.c, .int .i64 y.i] 25 (0, 0)) ∧ w4.drew.heap[n5]? = some (.cells #[.int .i64 o.k, .int .i64 o.r, .int .i64 o.o, .int .i64 o.n, .string o.s, .int .i64 o.w, .int .i64 o.h, .int .i64 o.t, .int .i64 o.c, .int .i64 o.i] 25 (0, 0)) ∧ w4.drew.heap[n6]? = some (.cells #[.int .i64 o.k, .int .i64 o.r, .int .i64 o.o, .int .i64 o.n, .string o.s, .int .i64 o.w, .int .i64 o.h, .int .i64 o.t, .int .i64 o.c, .int .i64 o.i, .bool true] 31 (0, 0)) ∧ Below n₀ w w4.drew) := hid ⟨cell_blk (i := 0) (show w4.drew.heap[n₀]? = _ from x4) rfl, cell_blk (i := 1) (show w4.drew.heap[n₀]? = _ from x4) rfl, cell_blk (i := 2) (show w4.drew.heap[n₀]? = _ from x4) rfl, cell_blk (i := 3) (show w4.drew.heap[n₀]? = _ from x4) rfl, cell_blk (i := 4) (show w4.drew.heap[n₀]? = _ from x4) rfl, cell_blk (i := 5) (show w4.drew.heap[n₀]? = _ from x4) rfl, cell_blk (i := 6) (show w4.drew.heap[n₀]? = _ from x4) rfl, cell_blk (i := 7) (show w4.drew.heap[n₀]? = _ from x4) rfl, cell_blk (i := 8) (show w4.drew.heap[n₀]? = _ from x4) rfl, cell_blk (i := 9) (show w4.drew.heap[n₀]? = _ from x4) rfl, cell_blk (i := 0) (show w4.drew.heap[n₀ + 1]? = _ from yy4) rfl, cell_blk (i := 1) (show w4.drew.heap[n₀ + 1]? = _ from yy4) rfl, cell_blk (i := 2) (show w4.drew.heap[n₀ + 1]? = _ from yy4) rfl, cell_blk (i := 3) (show w4.drew.heap[n₀ + 1]? = _ from yy4) rfl, cell_blk (i := 4) (show w4.drew.heap[n₀ + 1]? = _ from yy4) rfl, cell_blk (i := 5) (show w4.drew.heap[n₀ + 1]? = _ from yy4) rfl, cell_blk (i := 6) (show w4.drew.heap[n₀ + 1]? = _ from yy4) rfl, cell_blk (i := 7) (show w4.drew.heap[n₀ + 1]? = _ from yy4) rfl, cell_blk (i := 8) (show w4.drew.heap[n₀ + 1]? = _ from yy4) rfl, cell_blk (i := 9) (show w4.drew.heap[n₀ + 1]? = _ from yy4) rfl, cell_blk (i := 0) (show w4.drew.heap[n5]? = _ from o4) rfl, cell_blk (i := 1) (show w4.drew.heap[n5]? = _ from o4) rfl, cell_blk (i := 2) (show w4.drew.heap[n5]? = _ from o4) rfl, cell_blk (i := 3) (show w4.drew.heap[n5]? = _ from o4) rfl, cell_blk (i := 4) (show w4.drew.heap[n5]? = _ from o4) rfl, cell_blk (i := 5) (show w4.drew.heap[n5]? = _ from o4) rfl, cell_blk (i := 6) (show w4.drew.heap[n5]? = _ from o4) rfl, cell_blk (i := 7) (show w4.drew.heap[n5]? = _ from o4) rfl, cell_blk (i := 8) (show w4.drew.heap[n5]? = _ from o4) rfl, cell_blk (i := 9) (show w4.drew.heap[n5]? = _ from o4) rfl, cell_blk (i := 0) (show w4.drew.heap[n6]? = _ from g4) rfl, cell_blk (i := 1) (show w4.drew.heap[n6]? = _ from g4) rfl, cell_blk (i := 2) (show w4.drew.heap[n6]? = _ from g4) rfl, cell_blk (i := 3) (show w4.drew.heap[n6]? = _ from g4) rfl, cell_blk (i := 4) (show w4.drew.heap[n6]? = _ from g4) rfl, cell_blk (i := 5) (show w4.drew.heap[n6]? = _ from g4) rfl, cell_blk (i := 6) (show w4.drew.heap[n6]? = _ from g4) rfl, cell_blk (i := 7) (show w4.drew.heap[n6]? = _ from g4) rfl, cell_blk (i := 8) (show w4.drew.heap[n6]? = _ from g4) rfl, cell_blk (i := 9) (show w4.drew.heap[n6]? = _ from g4) rfl, cell_blk (i := 10) (show w4.drew.heap[n6]? = _ from g4) rfl, x4, yy4, o4, g4, B4.drewN 1⟩
            clear x4 yy4 o4 g4 B4
            refine wp_region_held_drew (S := (fun W => W.cell? ⟨n₀, 0, none⟩ = some (.int .i64 x.k) ∧ W.cell? ⟨n₀, 1, none⟩ = some (.int .i64 x.r) ∧ W.cell? ⟨n₀, 2, none⟩ = some (.int .i64 x.o) ∧ W.cell? ⟨n₀, 3, none⟩ = some (.int .i64 x.n) ∧ W.cell? ⟨n₀, 4, none⟩ = some (.string x.s) ∧ W.cell? ⟨n₀, 5, none⟩ = some (.int .i64 x.w) ∧ W.cell? ⟨n₀, 6, none⟩ = some (.int .i64 x.h) ∧ W.cell? ⟨n₀, 7, none⟩ = some (.int .i64 x.t) ∧ W.cell? ⟨n₀, 8, none⟩ = some (.int .i64 x.c) ∧ W.cell? ⟨n₀, 9, none⟩ = some (.int .i64 x.i) ∧ W.cell? ⟨n₀ + 1, 0, none⟩ = some (.int .i64 y.k) ∧ W.cell? ⟨n₀ + 1, 1, none⟩ = some (.int .i64 y.r) ∧ W.cell? ⟨n₀ + 1, 2, none⟩ = some (.int .i64 y.o) ∧ W.cell? ⟨n₀ + 1, 3, none⟩ = some (.int .i64 y.n) ∧ W.cell? ⟨n₀ + 1, 4, none⟩ = some (.string y.s) ∧ W.cell? ⟨n₀ + 1, 5, none⟩ = some (.int .i64 y.w) ∧ W.cell? ⟨n₀ + 1, 6, none⟩ = some (.int .i64 y.h) ∧ W.cell? ⟨n₀ + 1, 7, none⟩ = some (.int .i64 y.t) ∧ W.cell? ⟨n₀ + 1, 8, none⟩ = some (.int .i64 y.c) ∧ W.cell? ⟨n₀ + 1, 9, none⟩ = some (.int .i64 y.i) ∧ W.cell? ⟨n5, 0, none⟩ = some (.int .i64 o.k) ∧ W.cell? ⟨n5, 1, none⟩ = some (.int .i64 o.r) ∧ W.cell? ⟨n5, 2, none⟩ = some (.int .i64 o.o) ∧ W.cell? ⟨n5, 3, none⟩ = some (.int .i64 o.n) ∧ W.cell? ⟨n5, 4, none⟩ = some (.string o.s) ∧ W.cell? ⟨n5, 5, none⟩ = some (.int .i64 o.w) ∧ W.cell? ⟨n5, 6, none⟩ = some (.int .i64 o.h) ∧ W.cell? ⟨n5, 7, none⟩ = some (.int .i64 o.t) ∧ W.cell? ⟨n5, 8, none⟩ = some (.int .i64 o.c) ∧ W.cell? ⟨n5, 9, none⟩ = some (.int .i64 o.i) ∧ W.cell? ⟨n6, 0, none⟩ = some (.int .i64 o.k) ∧ W.cell? ⟨n6, 1, none⟩ = some (.int .i64 o.r) ∧ W.cell? ⟨n6, 2, none⟩ = some (.int .i64 o.o) ∧ W.cell? ⟨n6, 3, none⟩ = some (.int .i64 o.n) ∧ W.cell? ⟨n6, 4, none⟩ = some (.string o.s) ∧ W.cell? ⟨n6, 5, none⟩ = some (.int .i64 o.w) ∧ W.cell? ⟨n6, 6, none⟩ = some (.int .i64 o.h) ∧ W.cell? ⟨n6, 7, none⟩ = some (.int .i64 o.t) ∧ W.cell? ⟨n6, 8, none⟩ = some (.int .i64 o.c) ∧ W.cell? ⟨n6, 9, none⟩ = some (.int .i64 o.i) ∧ W.cell? ⟨n6, 10, none⟩ = some (.bool true) ∧ W.heap[n₀]? = some (.cells #[.int .i64 x.k, .int .i64 x.r, .int .i64 x.o, .int .i64 x.n, .string x.s, .int .i64 x.w, .int .i64 x.h, .int .i64 x.t, .int .i64 x.c, .int .i64 x.i] 25 (0, 0)) ∧ W.heap[n₀ + 1]? = some (.cells #[.int .i64 y.k, .int .i64 y.r, .int .i64 y.o, .int .i64 y.n, .string y.s, .int .i64 y.w, .int .i64 y.h, .int .i64 y.t, .int .i64 y.c, .int .i64 y.i] 25 (0, 0)) ∧ W.heap[n5]? = some (.cells #[.int .i64 o.k, .int .i64 o.r, .int .i64 o.o, .int .i64 o.n, .string o.s, .int .i64 o.w, .int .i64 o.h, .int .i64 o.t, .int .i64 o.c, .int .i64 o.i] 25 (0, 0)) ∧ W.heap[n6]? = some (.cells #[.int .i64 o.k, .int .i64 o.r, .int .i64 o.o, .int .i64 o.n, .string o.s, .int .i64 o.w, .int .i64 o.h, .int .i64 o.t, .int .i64 o.c, .int .i64 o.i, .bool true] 31 (0, 0)) ∧ Below n₀ w W)) (by kernel_rfl) (Hid.out st) (fun hHeld => ?_)
            refine wpAnyH_take (i := 0) (oi := ⟨some 43, _, _, _, _, _⟩) (v := ?_) rfl (by kernel_rfl) (by kernel_rfl) (by kernel_rfl) (fun _ _ _ h => h) (Or.inl ⟨by rfl, ?_⟩) (by assumption) ?_
            rotate_left
            · intro w hSw; (try dsimp only at hSw); go_simp <;> with_reducible rfl
            try simp only [Act.put, List.setIfInBounds_toArray, List.set_cons_zero, List.set_cons_succ]
            refine wpAnyH_take (i := 1) (oi := ⟨some 44, _, _, _, _, _⟩) (v := ?_) rfl (by kernel_rfl) (by kernel_rfl) (by kernel_rfl) (fun _ _ _ h => h) (Or.inl ⟨by rfl, ?_⟩) (by assumption) ?_
            rotate_left
            · intro w hSw; (try dsimp only at hSw); go_simp <;> with_reducible rfl
            try simp only [Act.put, List.setIfInBounds_toArray, List.set_cons_zero, List.set_cons_succ]
            refine wpAnyH_take (i := 2) (oi := ⟨some 45, _, _, _, _, _⟩) (v := ?_) rfl (by kernel_rfl) (by kernel_rfl) (by kernel_rfl) (fun _ _ _ h => h) (Or.inl ⟨by rfl, ?_⟩) (by assumption) ?_
            rotate_left
            · intro w hSw; (try dsimp only at hSw); go_simp <;> with_reducible rfl
            try simp only [Act.put, List.setIfInBounds_toArray, List.set_cons_zero, List.set_cons_succ]
            refine wpAnyH_take (i := 3) (oi := ⟨some 46, _, _, _, _, _⟩) (v := ?_) rfl (by kernel_rfl) (by kernel_rfl) (by kernel_rfl) (fun _ _ _ h => h) (Or.inl ⟨by rfl, ?_⟩) (by assumption) ?_
            rotate_left
            · intro w hSw; (try dsimp only at hSw); go_simp <;> with_reducible rfl
            try simp only [Act.put, List.setIfInBounds_toArray, List.set_cons_zero, List.set_cons_succ]
            refine wpAnyH_take (i := 4) (oi := ⟨some 47, _, _, _, _, _⟩) (v := ?_) rfl (by kernel_rfl) (by kernel_rfl) (by kernel_rfl) (fun _ _ _ h => h) (Or.inl ⟨by rfl, ?_⟩) (by assumption) ?_
            rotate_left
            · intro w hSw; (try dsimp only at hSw); go_simp <;> with_reducible rfl
            try simp only [Act.put, List.setIfInBounds_toArray, List.set_cons_zero, List.set_cons_succ]
            refine wpAnyH_take (i := 5) (oi := ⟨some 48, _, _, _, _, _⟩) (v := ?_) rfl (by kernel_rfl) (by kernel_rfl) (by kernel_rfl) (fun _ _ _ h => h) (Or.inl ⟨by rfl, ?_⟩) (by assumption) ?_
            rotate_left
            · intro w hSw; (try dsimp only at hSw); go_simp <;> with_reducible rfl
            try simp only [Act.put, List.setIfInBounds_toArray, List.set_cons_zero, List.set_cons_succ]
            refine wpAnyH_take (i := 6) (oi := ⟨some 49, _, _, _, _, _⟩) (v := ?_) rfl (by kernel_rfl) (by kernel_rfl) (by kernel_rfl) (fun _ _ _ h => h) (Or.inl ⟨by rfl, ?_⟩) (by assumption) ?_
            rotate_left
            · intro w hSw; (try dsimp only at hSw); go_simp <;> with_reducible rfl
            try simp only [Act.put, List.setIfInBounds_toArray, List.set_cons_zero, List.set_cons_succ]
            refine wpAnyH_take (i := 7) (oi := ⟨some 50, _, _, _, _, _⟩) (v := ?_) rfl (by kernel_rfl) (by kernel_rfl) (by kernel_rfl) (fun _ _ _ h => h) (Or.inl ⟨by rfl, ?_⟩) (by assumption) ?_
            rotate_left
            · intro w hSw; (try dsimp only at hSw); go_simp <;> with_reducible rfl
            try simp only [Act.put, List.setIfInBounds_toArray, List.set_cons_zero, List.set_cons_succ]
            refine wpAnyH_take (i := 8) (oi := ⟨some 51, _, _, _, _, _⟩) (v := ?_) rfl (by kernel_rfl) (by kernel_rfl) (by kernel_rfl) (fun _ _ _ h => h) (Or.inl ⟨by rfl, ?_⟩) (by assumption) ?_
            rotate_left
            · intro w hSw; (try dsimp only at hSw); go_simp <;> with_reducible rfl
            try simp only [Act.put, List.setIfInBounds_toArray, List.set_cons_zero, List.set_cons_succ]
            refine wpAnyH_take (i := 9) (oi := ⟨some 52, _, _, _, _, _⟩) (v := ?_) rfl (by kernel_rfl) (by kernel_rfl) (by kernel_rfl) (fun _ _ _ h => h) (Or.inl ⟨by rfl, ?_⟩) (by assumption) ?_
            rotate_left
            · intro w hSw; (try dsimp only at hSw); go_simp <;> with_reducible rfl
            try simp only [Act.put, List.setIfInBounds_toArray, List.set_cons_zero, List.set_cons_succ]
            refine wpAnyH_take (i := 10) (oi := ⟨some 53, _, _, _, _, _⟩) (v := ?_) rfl (by kernel_rfl) (by kernel_rfl) (by kernel_rfl) (fun _ _ _ h => h) (Or.inl ⟨by rfl, ?_⟩) (by assumption) ?_
            rotate_left
            · intro w hSw; (try dsimp only at hSw); go_simp <;> with_reducible rfl
            try simp only [Act.put, List.setIfInBounds_toArray, List.set_cons_zero, List.set_cons_succ]
            refine wpAnyH_take (i := 11) (oi := ⟨some 54, _, _, _, _, _⟩) (v := ?_) rfl (by kernel_rfl) (by kernel_rfl) (by kernel_rfl) (fun _ _ _ h => h) (Or.inl ⟨by rfl, ?_⟩) (by assumption) ?_
            rotate_left
            · intro w hSw; (try dsimp only at hSw); go_simp <;> with_reducible rfl
            try simp only [Act.put, List.setIfInBounds_toArray, List.set_cons_zero, List.set_cons_succ]
            refine wpAnyH_take (i := 12) (oi := ⟨some 55, _, _, _, _, _⟩) (v := ?_) rfl (by kernel_rfl) (by kernel_rfl) (by kernel_rfl) (fun _ _ _ h => h) (Or.inl ⟨by rfl, ?_⟩) (by assumption) ?_
            rotate_left
            · intro w hSw; (try dsimp only at hSw); go_simp <;> with_reducible rfl
            try simp only [Act.put, List.setIfInBounds_toArray, List.set_cons_zero, List.set_cons_succ]
            refine wpAnyH_take (i := 13) (oi := ⟨some 56, _, _, _, _, _⟩) (v := ?_) rfl (by kernel_rfl) (by kernel_rfl) (by kernel_rfl) (fun _ _ _ h => h) (Or.inl ⟨by rfl, ?_⟩) (by assumption) ?_
            rotate_left
            · intro w hSw; (try dsimp only at hSw); go_simp <;> with_reducible rfl
            try simp only [Act.put, List.setIfInBounds_toArray, List.set_cons_zero, List.set_cons_succ]
            refine wpAnyH_take (i := 14) (oi := ⟨some 57, _, _, _, _, _⟩) (v := ?_) rfl (by kernel_rfl) (by kernel_rfl) (by kernel_rfl) (fun _ _ _ h => h) (Or.inl ⟨by rfl, ?_⟩) (by assumption) ?_
            rotate_left
            · intro w hSw; (try dsimp only at hSw); go_simp <;> with_reducible rfl
            try simp only [Act.put, List.setIfInBounds_toArray, List.set_cons_zero, List.set_cons_succ]
            refine wpAnyH_take (i := 15) (oi := ⟨some 58, _, _, _, _, _⟩) rfl (by kernel_rfl) (by kernel_rfl) (by kernel_rfl) (fun _ _ _ h => h) (Or.inr ⟨by rfl, rfl⟩) (by assumption) ?_
            try simp only [Act.put, List.setIfInBounds_toArray, List.set_cons_zero, List.set_cons_succ]
            refine wpAnyH_take (i := 16) (oi := ⟨some 59, _, _, _, _, _⟩) rfl (by kernel_rfl) (by kernel_rfl) (by kernel_rfl) (fun _ _ _ h => h) (Or.inr ⟨by rfl, rfl⟩) (by assumption) ?_
            try simp only [Act.put, List.setIfInBounds_toArray, List.set_cons_zero, List.set_cons_succ]
            refine wpAnyH_take (i := 17) (oi := ⟨some 60, _, _, _, _, _⟩) (v := ?_) rfl (by kernel_rfl) (by kernel_rfl) (by kernel_rfl) (fun _ _ _ h => h) (Or.inl ⟨by rfl, ?_⟩) (by assumption) ?_
            rotate_left
            · intro w hSw; (try dsimp only at hSw); go_simp <;> with_reducible rfl
            try simp only [Act.put, List.setIfInBounds_toArray, List.set_cons_zero, List.set_cons_succ]
            refine wpAnyH_take (i := 18) (oi := ⟨some 61, _, _, _, _, _⟩) (v := ?_) rfl (by kernel_rfl) (by kernel_rfl) (by kernel_rfl) (fun _ _ _ h => h) (Or.inl ⟨by rfl, ?_⟩) (by assumption) ?_
            rotate_left
            · intro w hSw; (try dsimp only at hSw); go_simp <;> with_reducible rfl
            try simp only [Act.put, List.setIfInBounds_toArray, List.set_cons_zero, List.set_cons_succ]
            refine wpAnyH_take (i := 19) (oi := ⟨some 62, _, _, _, _, _⟩) (v := ?_) rfl (by kernel_rfl) (by kernel_rfl) (by kernel_rfl) (fun _ _ _ h => h) (Or.inl ⟨by rfl, ?_⟩) (by assumption) ?_
            rotate_left
            · intro w hSw; (try dsimp only at hSw); go_simp <;> with_reducible rfl
            try simp only [Act.put, List.setIfInBounds_toArray, List.set_cons_zero, List.set_cons_succ]
            refine wpAnyH_take (i := 20) (oi := ⟨some 63, _, _, _, _, _⟩) (v := ?_) rfl (by kernel_rfl) (by kernel_rfl) (by kernel_rfl) (fun _ _ _ h => h) (Or.inl ⟨by rfl, ?_⟩) (by assumption) ?_
            rotate_left
            · intro w hSw; (try dsimp only at hSw); go_simp <;> with_reducible rfl
            try simp only [Act.put, List.setIfInBounds_toArray, List.set_cons_zero, List.set_cons_succ]
            refine wpAnyH_take (i := 21) (oi := ⟨some 64, _, _, _, _, _⟩) (v := ?_) rfl (by kernel_rfl) (by kernel_rfl) (by kernel_rfl) (fun _ _ _ h => h) (Or.inl ⟨by rfl, ?_⟩) (by assumption) ?_
            rotate_left
            · intro w hSw; (try dsimp only at hSw); go_simp <;> with_reducible rfl
            try simp only [Act.put, List.setIfInBounds_toArray, List.set_cons_zero, List.set_cons_succ]
            refine wpAnyH_take (i := 22) (oi := ⟨some 65, _, _, _, _, _⟩) (v := ?_) rfl (by kernel_rfl) (by kernel_rfl) (by kernel_rfl) (fun _ _ _ h => h) (Or.inl ⟨by rfl, ?_⟩) (by assumption) ?_
            rotate_left
            · intro w hSw; (try dsimp only at hSw); go_simp <;> with_reducible rfl
            try simp only [Act.put, List.setIfInBounds_toArray, List.set_cons_zero, List.set_cons_succ]
            refine wpAnyH_take (i := 23) (oi := ⟨some 66, _, _, _, _, _⟩) (v := ?_) rfl (by kernel_rfl) (by kernel_rfl) (by kernel_rfl) (fun _ _ _ h => h) (Or.inl ⟨by rfl, ?_⟩) (by assumption) ?_
            rotate_left
            · intro w hSw; (try dsimp only at hSw); go_simp <;> with_reducible rfl
            try simp only [Act.put, List.setIfInBounds_toArray, List.set_cons_zero, List.set_cons_succ]
            refine wpAnyH_take (i := 24) (oi := ⟨some 67, _, _, _, _, _⟩) (v := ?_) rfl (by kernel_rfl) (by kernel_rfl) (by kernel_rfl) (fun _ _ _ h => h) (Or.inl ⟨by rfl, ?_⟩) (by assumption) ?_
            rotate_left
            · intro w hSw; (try dsimp only at hSw); go_simp <;> with_reducible rfl
            try simp only [Act.put, List.setIfInBounds_toArray, List.set_cons_zero, List.set_cons_succ]
            refine wpAnyH_take (i := 25) (oi := ⟨some 68, _, _, _, _, _⟩) (v := ?_) rfl (by kernel_rfl) (by kernel_rfl) (by kernel_rfl) (fun _ _ _ h => h) (Or.inl ⟨by rfl, ?_⟩) (by assumption) ?_
            rotate_left
            · intro w hSw; (try dsimp only at hSw); go_simp <;> with_reducible rfl
            try simp only [Act.put, List.setIfInBounds_toArray, List.set_cons_zero, List.set_cons_succ]
            refine wpAnyH_take (i := 26) (oi := ⟨some 69, _, _, _, _, _⟩) (v := ?_) rfl (by kernel_rfl) (by kernel_rfl) (by kernel_rfl) (fun _ _ _ h => h) (Or.inl ⟨by rfl, ?_⟩) (by assumption) ?_
            rotate_left
            · intro w hSw; (try dsimp only at hSw); go_simp <;> with_reducible rfl
            try simp only [Act.put, List.setIfInBounds_toArray, List.set_cons_zero, List.set_cons_succ]
            refine wpAnyH_take (i := 27) (oi := ⟨some 70, _, _, _, _, _⟩) (v := ?_) rfl (by kernel_rfl) (by kernel_rfl) (by kernel_rfl) (fun _ _ _ h => h) (Or.inl ⟨by rfl, ?_⟩) (by assumption) ?_
            rotate_left
            · intro w hSw; (try dsimp only at hSw); go_simp <;> with_reducible rfl
            try simp only [Act.put, List.setIfInBounds_toArray, List.set_cons_zero, List.set_cons_succ]
            refine wpAnyH_take (i := 28) (oi := ⟨some 71, _, _, _, _, _⟩) (v := ?_) rfl (by kernel_rfl) (by kernel_rfl) (by kernel_rfl) (fun _ _ _ h => h) (Or.inl ⟨by rfl, ?_⟩) (by assumption) ?_
            rotate_left
            · intro w hSw; (try dsimp only at hSw); go_simp <;> with_reducible rfl
            try simp only [Act.put, List.setIfInBounds_toArray, List.set_cons_zero, List.set_cons_succ]
            refine wpAnyH_take (i := 29) (oi := ⟨some 72, _, _, _, _, _⟩) (v := ?_) rfl (by kernel_rfl) (by kernel_rfl) (by kernel_rfl) (fun _ _ _ h => h) (Or.inl ⟨by rfl, ?_⟩) (by assumption) ?_
            rotate_left
            · intro w hSw; (try dsimp only at hSw); go_simp <;> with_reducible rfl
            try simp only [Act.put, List.setIfInBounds_toArray, List.set_cons_zero, List.set_cons_succ]
            refine wpAnyH_take (i := 30) (oi := ⟨some 73, _, _, _, _, _⟩) (v := ?_) rfl (by kernel_rfl) (by kernel_rfl) (by kernel_rfl) (fun _ _ _ h => h) (Or.inl ⟨by rfl, ?_⟩) (by assumption) ?_
            rotate_left
            · intro w hSw; (try dsimp only at hSw); go_simp <;> with_reducible rfl
            try simp only [Act.put, List.setIfInBounds_toArray, List.set_cons_zero, List.set_cons_succ]
            refine wpAnyH_take (i := 31) (oi := ⟨some 74, _, _, _, _, _⟩) (v := ?_) rfl (by kernel_rfl) (by kernel_rfl) (by kernel_rfl) (fun _ _ _ h => h) (Or.inl ⟨by rfl, ?_⟩) (by assumption) ?_
            rotate_left
            · intro w hSw; (try dsimp only at hSw); go_simp <;> with_reducible rfl
            try simp only [Act.put, List.setIfInBounds_toArray, List.set_cons_zero, List.set_cons_succ]
            refine wpAnyH_take (i := 32) (oi := ⟨some 75, _, _, _, _, _⟩) (v := ?_) rfl (by kernel_rfl) (by kernel_rfl) (by kernel_rfl) (fun _ _ _ h => h) (Or.inl ⟨by rfl, ?_⟩) (by assumption) ?_
            rotate_left
            · intro w hSw; (try dsimp only at hSw); go_simp <;> with_reducible rfl
            try simp only [Act.put, List.setIfInBounds_toArray, List.set_cons_zero, List.set_cons_succ]
            refine wpAnyH_take (i := 33) (oi := ⟨some 76, _, _, _, _, _⟩) (v := ?_) rfl (by kernel_rfl) (by kernel_rfl) (by kernel_rfl) (fun _ _ _ h => h) (Or.inl ⟨by rfl, ?_⟩) (by assumption) ?_
            rotate_left
            · intro w hSw; (try dsimp only at hSw); go_simp <;> with_reducible rfl
            try simp only [Act.put, List.setIfInBounds_toArray, List.set_cons_zero, List.set_cons_succ]
            refine wpAnyH_take (i := 34) (oi := ⟨some 77, _, _, _, _, _⟩) (v := ?_) rfl (by kernel_rfl) (by kernel_rfl) (by kernel_rfl) (fun _ _ _ h => h) (Or.inl ⟨by rfl, ?_⟩) (by assumption) ?_
            rotate_left
            · intro w hSw; (try dsimp only at hSw); go_simp <;> with_reducible rfl
            try simp only [Act.put, List.setIfInBounds_toArray, List.set_cons_zero, List.set_cons_succ]
            refine wpAnyH_take (i := 35) (oi := ⟨some 78, _, _, _, _, _⟩) (v := ?_) rfl (by kernel_rfl) (by kernel_rfl) (by kernel_rfl) (fun _ _ _ h => h) (Or.inl ⟨by rfl, ?_⟩) (by assumption) ?_
            rotate_left
            · intro w hSw; (try dsimp only at hSw); go_simp <;> with_reducible rfl
            try simp only [Act.put, List.setIfInBounds_toArray, List.set_cons_zero, List.set_cons_succ]
            refine wpAnyH_take (i := 36) (oi := ⟨some 79, _, _, _, _, _⟩) (v := ?_) rfl (by kernel_rfl) (by kernel_rfl) (by kernel_rfl) (fun _ _ _ h => h) (Or.inl ⟨by rfl, ?_⟩) (by assumption) ?_
            rotate_left
            · intro w hSw; (try dsimp only at hSw); go_simp <;> with_reducible rfl
            try simp only [Act.put, List.setIfInBounds_toArray, List.set_cons_zero, List.set_cons_succ]
            refine wpAnyH_take (i := 37) (oi := ⟨some 80, _, _, _, _, _⟩) (v := ?_) rfl (by kernel_rfl) (by kernel_rfl) (by kernel_rfl) (fun _ _ _ h => h) (Or.inl ⟨by rfl, ?_⟩) (by assumption) ?_
            rotate_left
            · intro w hSw; (try dsimp only at hSw); go_simp <;> with_reducible rfl
            try simp only [Act.put, List.setIfInBounds_toArray, List.set_cons_zero, List.set_cons_succ]
            refine wpAnyH_take (i := 38) (oi := ⟨some 81, _, _, _, _, _⟩) (v := ?_) rfl (by kernel_rfl) (by kernel_rfl) (by kernel_rfl) (fun _ _ _ h => h) (Or.inl ⟨by rfl, ?_⟩) (by assumption) ?_
            rotate_left
            · intro w hSw; (try dsimp only at hSw); go_simp <;> with_reducible rfl
            try simp only [Act.put, List.setIfInBounds_toArray, List.set_cons_zero, List.set_cons_succ]
            refine wpAnyH_take (i := 39) (oi := ⟨some 82, _, _, _, _, _⟩) (v := ?_) rfl (by kernel_rfl) (by kernel_rfl) (by kernel_rfl) (fun _ _ _ h => h) (Or.inl ⟨by rfl, ?_⟩) (by assumption) ?_
            rotate_left
            · intro w hSw; (try dsimp only at hSw); go_simp <;> with_reducible rfl
            try simp only [Act.put, List.setIfInBounds_toArray, List.set_cons_zero, List.set_cons_succ]
            refine wpAnyH_take (i := 40) (oi := ⟨some 83, _, _, _, _, _⟩) (v := ?_) rfl (by kernel_rfl) (by kernel_rfl) (by kernel_rfl) (fun _ _ _ h => h) (Or.inl ⟨by rfl, ?_⟩) (by assumption) ?_
            rotate_left
            · intro w hSw; (try dsimp only at hSw); go_simp <;> with_reducible rfl
            try simp only [Act.put, List.setIfInBounds_toArray, List.set_cons_zero, List.set_cons_succ]
            refine wpAnyH_take (i := 41) (oi := ⟨some 84, _, _, _, _, _⟩) (v := ?_) rfl (by kernel_rfl) (by kernel_rfl) (by kernel_rfl) (fun _ _ _ h => h) (Or.inl ⟨by rfl, ?_⟩) (by assumption) ?_
            rotate_left
            · intro w hSw; (try dsimp only at hSw); go_simp <;> with_reducible rfl
            try simp only [Act.put, List.setIfInBounds_toArray, List.set_cons_zero, List.set_cons_succ]
            refine wpAnyH_take (i := 43) (oi := ⟨some 86, _, _, _, _, _⟩) (v := ?_) rfl (by kernel_rfl) (by kernel_rfl) (by kernel_rfl) (fun _ _ _ h => h) (Or.inl ⟨by rfl, ?_⟩) (by assumption) ?_
            rotate_left
            · intro w hSw; (try dsimp only at hSw); go_simp <;> with_reducible rfl
            try simp only [Act.put, List.setIfInBounds_toArray, List.set_cons_zero, List.set_cons_succ]
            refine wpAnyH_take (i := 44) (oi := ⟨some 87, _, _, _, _, _⟩) (v := ?_) rfl (by kernel_rfl) (by kernel_rfl) (by kernel_rfl) (fun _ _ _ h => h) (Or.inl ⟨by rfl, ?_⟩) (by assumption) ?_
            rotate_left
            · intro w hSw; (try dsimp only at hSw); go_simp <;> with_reducible rfl
            try simp only [Act.put, List.setIfInBounds_toArray, List.set_cons_zero, List.set_cons_succ]
            refine wpAnyH_take (i := 45) (oi := ⟨some 88, _, _, _, _, _⟩) (v := ?_) rfl (by kernel_rfl) (by kernel_rfl) (by kernel_rfl) (fun _ _ _ h => h) (Or.inl ⟨by rfl, ?_⟩) (by assumption) ?_
            rotate_left
            · intro w hSw; (try dsimp only at hSw); go_simp; exact sameIfs x y w
            try simp only [Act.put, List.setIfInBounds_toArray, List.set_cons_zero, List.set_cons_succ]
            refine wpAnyH_ready (rs := [42]) (by kernel_rfl) (by simp) ?_
            refine AllReadyH.cons rfl (fun K hK => ?_) AllReadyH.nil
            go_simp
            refine (cS.out _).mono ?_; rintro e w' ⟨rfl, hb9⟩
            try go_wp2_with fail
            refine hK.out _ _ (kS.out _ _ (by assumption) hb9) (fun hHeld => ?_)
            clear hK K
            try simp only [Act.put, List.setIfInBounds_toArray, List.set_cons_zero, List.set_cons_succ]
            refine wpAnyH_take (i := 46) (oi := ⟨some 89, _, _, _, _, _⟩) (v := ?_) rfl (by kernel_rfl) (by kernel_rfl) (by kernel_rfl) (fun _ _ _ h => h) (Or.inl ⟨by rfl, ?_⟩) (by assumption) ?_
            rotate_left
            · intro w hSw; (try dsimp only at hSw); go_simp <;> with_reducible rfl
            try simp only [Act.put, List.setIfInBounds_toArray, List.set_cons_zero, List.set_cons_succ]
            refine wpAnyH_take (i := 47) (oi := ⟨some 90, _, _, _, _, _⟩) (v := ?_) rfl (by kernel_rfl) (by kernel_rfl) (by kernel_rfl) (fun _ _ _ h => h) (Or.inl ⟨by rfl, ?_⟩) (by assumption) ?_
            rotate_left
            · intro w hSw; (try dsimp only at hSw); go_simp <;> with_reducible rfl
            try simp only [Act.put, List.setIfInBounds_toArray, List.set_cons_zero, List.set_cons_succ]
            refine wpAnyH_take (i := 48) (oi := ⟨some 91, _, _, _, _, _⟩) (v := ?_) rfl (by kernel_rfl) (by kernel_rfl) (by kernel_rfl) (fun _ _ _ h => h) (Or.inl ⟨by rfl, ?_⟩) (by assumption) ?_
            rotate_left
            · intro w hSw; (try dsimp only at hSw); go_simp <;> with_reducible rfl
            try simp only [Act.put, List.setIfInBounds_toArray, List.set_cons_zero, List.set_cons_succ]
            refine wpAnyH_ready (rs := [49]) (by kernel_rfl) (by simp) ?_
            refine AllReadyH.cons rfl (fun K hK => ?_) AllReadyH.nil
            go_simp
            refine (cW.out _ (fS.out _ (by assumption))).mono ?_; rintro e w' ⟨rfl, hb9⟩
            try go_wp2_with fail
            refine hK.out _ _ (kS.out _ _ (by assumption) hb9) (fun hHeld => ?_)
            clear hK K
            try simp only [Act.put, List.setIfInBounds_toArray, List.set_cons_zero, List.set_cons_succ]
            refine wpAnyH_take (i := 50) (oi := ⟨some 93, _, _, _, _, _⟩) (v := ?_) rfl (by kernel_rfl) (by kernel_rfl) (by kernel_rfl) (fun _ _ _ h => h) (Or.inl ⟨by rfl, ?_⟩) (by assumption) ?_
            rotate_left
            · intro w hSw; (try dsimp only at hSw); go_simp <;> with_reducible rfl
            try simp only [Act.put, List.setIfInBounds_toArray, List.set_cons_zero, List.set_cons_succ]
            refine wpAnyH_take (i := 51) (oi := ⟨some 6, _, _, _, _, _⟩) (v := ?_) rfl (by kernel_rfl) (by kernel_rfl) (by kernel_rfl) (fun _ _ _ h => h) (Or.inl ⟨by rfl, ?_⟩) (by assumption) ?_
            rotate_left
            · intro w hSw; (try dsimp only at hSw); go_simp <;> with_reducible rfl
            try simp only [Act.put, List.setIfInBounds_toArray, List.set_cons_zero, List.set_cons_succ]
            refine wpAnyH_done (by kernel_rfl) ?_ _
            go_wp2
            go_ret
            exact ⟨rfl, hn₀ ▸ fS.out _ (by assumption)⟩
        | some TL =>
          have hTv : (⟨((textO (op8 x)).getD []).toArray⟩ : ByteArray) = TT ∧ (0 : Int) = if (textO (op8 x)).isSome = true then 0 else 11 := ⟨hTU, by rw [hX]; rfl⟩
          have hTT : TT.toList.isEmpty = false := by
            have h9 := text_ne hX
            rw [← hTU, hX, Lib.toList_data]
            cases TL with
            | nil => exact absurd rfl h9
            | cons a r => rfl
          cases hL : lineS s.data.toList with
          | none =>
            obtain ⟨o, ho⟩ : ∃ o : OpB, o = zOp := ⟨_, rfl⟩
            have hLv : (lineS s.data.toList = some (op8 o) ∧ false = true) ∨ (lineS s.data.toList = none ∧ o = zOp ∧ false = false) := .inr ⟨hL, ho, rfl⟩
            have cL := hid (Line_val s ((w.alloc (.cells #[.int .i64 x.k, .int .i64 x.r, .int .i64 x.o, .int .i64 x.n, .string x.s, .int .i64 x.w, .int .i64 x.h, .int .i64 x.t, .int .i64 x.c, .int .i64 x.i] 25)).alloc (.cells #[.int .i64 y.k, .int .i64 y.r, .int .i64 y.o, .int .i64 y.n, .string y.s, .int .i64 y.w, .int .i64 y.h, .int .i64 y.t, .int .i64 y.c, .int .i64 y.i] 25)) (by omega) (hT.below (hn₀ ▸ B2)) o 11 (.inr ⟨hL, ho, rfl⟩))
            have cRr := hid (fun W => rLine_val s W (by omega) o false hLv)
            have cTt := hid (fun (W : World) (h : Below n₀ w W) => Text_val x W hx (by omega) (hT.below (hn₀ ▸ h)) _ _ hTv)
            clear hLv hTv
            replace hTU := hid hTU
            replace ho := hid ho
            unfold opV opC at cL
            clear q4 p4
            replace hL := hid hL
            replace hX := hid hX
            go_enter Tryd.func3, Tryd.ntmps3
            go_wp2_with (fail)
            refine cL.out.mono ?_
            rintro e w1 ⟨rfl, b1⟩
            have x1 := (Kept.of_below b1 0).same _ _ x0 (.inl rfl)
            have yy1 := (Kept.of_below b1 0).same _ _ yy0 (.inl rfl)
            have B3 := B2.trans (b1.mono (by have := B2.size; omega))
            obtain ⟨n5, hn5⟩ : ∃ n, w1.heap.size = n := ⟨_, rfl⟩
            have o1 := World.alloc_heap_new w1 (.cells #[.int .i64 o.k, .int .i64 o.r, .int .i64 o.o, .int .i64 o.n, .string o.s, .int .i64 o.w, .int .i64 o.h, .int .i64 o.t, .int .i64 o.c, .int .i64 o.i] 25)
            rw [hn5] at o1
            have x1a := (Kept.alloc 0 w1 (.cells #[.int .i64 o.k, .int .i64 o.r, .int .i64 o.o, .int .i64 o.n, .string o.s, .int .i64 o.w, .int .i64 o.h, .int .i64 o.t, .int .i64 o.c, .int .i64 o.i] 25)).same _ _ x1 (.inl rfl)
            have yy1a := (Kept.alloc 0 w1 (.cells #[.int .i64 o.k, .int .i64 o.r, .int .i64 o.o, .int .i64 o.n, .string o.s, .int .i64 o.w, .int .i64 o.h, .int .i64 o.t, .int .i64 o.c, .int .i64 o.i] 25)).same _ _ yy1 (.inl rfl)
            have B3a := B3.alloc (by have := B3.size; omega) (.cells #[.int .i64 o.k, .int .i64 o.r, .int .i64 o.o, .int .i64 o.n, .string o.s, .int .i64 o.w, .int .i64 o.h, .int .i64 o.t, .int .i64 o.c, .int .i64 o.i] 25)
            have cR := hid (cRr.out (w1.alloc (.cells #[.int .i64 o.k, .int .i64 o.r, .int .i64 o.o, .int .i64 o.n, .string o.s, .int .i64 o.w, .int .i64 o.h, .int .i64 o.t, .int .i64 o.c, .int .i64 o.i] 25)))
            unfold gotC at cR
            clear cL b1 x1 yy1 B3
            go_wp2_with (fail)
            refine cR.out.mono ?_
            rintro e w2 ⟨rfl, b2⟩
            have x2 := (Kept.of_below b2 0).same _ _ x1a (.inl rfl)
            have yy2 := (Kept.of_below b2 0).same _ _ yy1a (.inl rfl)
            have o2 := (Kept.of_below b2 0).same _ _ o1 (.inl rfl)
            have B4' := B3a.trans (b2.mono (by have := B3a.size; omega))
            obtain ⟨n6, hn6⟩ : ∃ n, w2.heap.size = n := ⟨_, rfl⟩
            have g2 := World.alloc_heap_new w2 (.cells #[.int .i64 o.k, .int .i64 o.r, .int .i64 o.o, .int .i64 o.n, .string o.s, .int .i64 o.w, .int .i64 o.h, .int .i64 o.t, .int .i64 o.c, .int .i64 o.i, .bool false] 31)
            rw [hn6] at g2
            have x2a := (Kept.alloc 0 w2 (.cells #[.int .i64 o.k, .int .i64 o.r, .int .i64 o.o, .int .i64 o.n, .string o.s, .int .i64 o.w, .int .i64 o.h, .int .i64 o.t, .int .i64 o.c, .int .i64 o.i, .bool false] 31)).same _ _ x2 (.inl rfl)
            have yy2a := (Kept.alloc 0 w2 (.cells #[.int .i64 o.k, .int .i64 o.r, .int .i64 o.o, .int .i64 o.n, .string o.s, .int .i64 o.w, .int .i64 o.h, .int .i64 o.t, .int .i64 o.c, .int .i64 o.i, .bool false] 31)).same _ _ yy2 (.inl rfl)
            have o2a := (Kept.alloc 0 w2 (.cells #[.int .i64 o.k, .int .i64 o.r, .int .i64 o.o, .int .i64 o.n, .string o.s, .int .i64 o.w, .int .i64 o.h, .int .i64 o.t, .int .i64 o.c, .int .i64 o.i, .bool false] 31)).same _ _ o2 (.inl rfl)
            have B4a := B4'.alloc (by have := B4'.size; omega) (.cells #[.int .i64 o.k, .int .i64 o.r, .int .i64 o.o, .int .i64 o.n, .string o.s, .int .i64 o.w, .int .i64 o.h, .int .i64 o.t, .int .i64 o.c, .int .i64 o.i, .bool false] 31)
            have c0 : (w2.alloc (.cells #[.int .i64 o.k, .int .i64 o.r, .int .i64 o.o, .int .i64 o.n, .string o.s, .int .i64 o.w, .int .i64 o.h, .int .i64 o.t, .int .i64 o.c, .int .i64 o.i, .bool false] 31)).cell? ⟨n₀, 0, none⟩ = some (.int .i64 x.k) := cell_blk (i := 0) x2a rfl
            have c1 : (w2.alloc (.cells #[.int .i64 o.k, .int .i64 o.r, .int .i64 o.o, .int .i64 o.n, .string o.s, .int .i64 o.w, .int .i64 o.h, .int .i64 o.t, .int .i64 o.c, .int .i64 o.i, .bool false] 31)).cell? ⟨n₀, 1, none⟩ = some (.int .i64 x.r) := cell_blk (i := 1) x2a rfl
            have c2 : (w2.alloc (.cells #[.int .i64 o.k, .int .i64 o.r, .int .i64 o.o, .int .i64 o.n, .string o.s, .int .i64 o.w, .int .i64 o.h, .int .i64 o.t, .int .i64 o.c, .int .i64 o.i, .bool false] 31)).cell? ⟨n₀, 2, none⟩ = some (.int .i64 x.o) := cell_blk (i := 2) x2a rfl
            have c3 : (w2.alloc (.cells #[.int .i64 o.k, .int .i64 o.r, .int .i64 o.o, .int .i64 o.n, .string o.s, .int .i64 o.w, .int .i64 o.h, .int .i64 o.t, .int .i64 o.c, .int .i64 o.i, .bool false] 31)).cell? ⟨n₀, 3, none⟩ = some (.int .i64 x.n) := cell_blk (i := 3) x2a rfl
            have c4 : (w2.alloc (.cells #[.int .i64 o.k, .int .i64 o.r, .int .i64 o.o, .int .i64 o.n, .string o.s, .int .i64 o.w, .int .i64 o.h, .int .i64 o.t, .int .i64 o.c, .int .i64 o.i, .bool false] 31)).cell? ⟨n₀, 4, none⟩ = some (.string x.s) := cell_blk (i := 4) x2a rfl
            have c5 : (w2.alloc (.cells #[.int .i64 o.k, .int .i64 o.r, .int .i64 o.o, .int .i64 o.n, .string o.s, .int .i64 o.w, .int .i64 o.h, .int .i64 o.t, .int .i64 o.c, .int .i64 o.i, .bool false] 31)).cell? ⟨n₀, 5, none⟩ = some (.int .i64 x.w) := cell_blk (i := 5) x2a rfl
            have c6 : (w2.alloc (.cells #[.int .i64 o.k, .int .i64 o.r, .int .i64 o.o, .int .i64 o.n, .string o.s, .int .i64 o.w, .int .i64 o.h, .int .i64 o.t, .int .i64 o.c, .int .i64 o.i, .bool false] 31)).cell? ⟨n₀, 6, none⟩ = some (.int .i64 x.h) := cell_blk (i := 6) x2a rfl
            have c7 : (w2.alloc (.cells #[.int .i64 o.k, .int .i64 o.r, .int .i64 o.o, .int .i64 o.n, .string o.s, .int .i64 o.w, .int .i64 o.h, .int .i64 o.t, .int .i64 o.c, .int .i64 o.i, .bool false] 31)).cell? ⟨n₀, 7, none⟩ = some (.int .i64 x.t) := cell_blk (i := 7) x2a rfl
            have c8 : (w2.alloc (.cells #[.int .i64 o.k, .int .i64 o.r, .int .i64 o.o, .int .i64 o.n, .string o.s, .int .i64 o.w, .int .i64 o.h, .int .i64 o.t, .int .i64 o.c, .int .i64 o.i, .bool false] 31)).cell? ⟨n₀, 8, none⟩ = some (.int .i64 x.c) := cell_blk (i := 8) x2a rfl
            have c9 : (w2.alloc (.cells #[.int .i64 o.k, .int .i64 o.r, .int .i64 o.o, .int .i64 o.n, .string o.s, .int .i64 o.w, .int .i64 o.h, .int .i64 o.t, .int .i64 o.c, .int .i64 o.i, .bool false] 31)).cell? ⟨n₀, 9, none⟩ = some (.int .i64 x.i) := cell_blk (i := 9) x2a rfl
            have cT := hid (cTt.out (w2.alloc (.cells #[.int .i64 o.k, .int .i64 o.r, .int .i64 o.o, .int .i64 o.n, .string o.s, .int .i64 o.w, .int .i64 o.h, .int .i64 o.t, .int .i64 o.c, .int .i64 o.i, .bool false] 31)) B4a)
            unfold opV opC at cT
            clear cR b2 x1a yy1a o1 B3a x2 yy2 o2 B4'
            go_wp2_with (fail)
            refine cT.out.mono ?_
            rintro e w3 ⟨rfl, b3⟩
            have x3 := (Kept.of_below b3 0).same _ _ x2a (.inl rfl)
            have yy3 := (Kept.of_below b3 0).same _ _ yy2a (.inl rfl)
            have o3 := (Kept.of_below b3 0).same _ _ o2a (.inl rfl)
            have g3 := (Kept.of_below b3 0).same _ _ g2 (.inl rfl)
            have B5 := B4a.trans (b3.mono (by have := B4a.size; omega))
            have d0 : w3.cell? ⟨n₀, 0, none⟩ = some (.int .i64 x.k) := cell_blk (i := 0) x3 rfl
            have d1 : w3.cell? ⟨n₀, 1, none⟩ = some (.int .i64 x.r) := cell_blk (i := 1) x3 rfl
            have d2 : w3.cell? ⟨n₀, 2, none⟩ = some (.int .i64 x.o) := cell_blk (i := 2) x3 rfl
            have d3 : w3.cell? ⟨n₀, 3, none⟩ = some (.int .i64 x.n) := cell_blk (i := 3) x3 rfl
            have d4 : w3.cell? ⟨n₀, 4, none⟩ = some (.string x.s) := cell_blk (i := 4) x3 rfl
            have d5 : w3.cell? ⟨n₀, 5, none⟩ = some (.int .i64 x.w) := cell_blk (i := 5) x3 rfl
            have d6 : w3.cell? ⟨n₀, 6, none⟩ = some (.int .i64 x.h) := cell_blk (i := 6) x3 rfl
            have d7 : w3.cell? ⟨n₀, 7, none⟩ = some (.int .i64 x.t) := cell_blk (i := 7) x3 rfl
            have d8 : w3.cell? ⟨n₀, 8, none⟩ = some (.int .i64 x.c) := cell_blk (i := 8) x3 rfl
            have d9 : w3.cell? ⟨n₀, 9, none⟩ = some (.int .i64 x.i) := cell_blk (i := 9) x3 rfl
            have cU := hid (rText_any x w3 hx (by omega))
            rw [hTU.out] at cU
            unfold opV opC at cU
            clear cT b3 x2a yy2a o2a g2 B4a c0 c1 c2 c3 c4 c5 c6 c7 c8 c9
            go_wp2_with (fail)
            refine cU.out.mono ?_
            rintro e w4 ⟨rfl, b4⟩
            have x4 := (Kept.of_below b4 0).same _ _ x3 (.inl rfl)
            have yy4 := (Kept.of_below b4 0).same _ _ yy3 (.inl rfl)
            have o4 := (Kept.of_below b4 0).same _ _ o3 (.inl rfl)
            have g4 := (Kept.of_below b4 0).same _ _ g3 (.inl rfl)
            have B4 := B5.trans (b4.mono (by have := B5.size; omega))
            have cS := hid (fun V => Same_any x y V)
            unfold opV opC at cS
            have cW := hid (fun (V : World) (h : Below n₀ w V) => wakes_any V (hT.below (hn₀ ▸ h)))
            clear cU b4 x3 yy3 o3 g3 B5 d0 d1 d2 d3 d4 d5 d6 d7 d8 d9 hx hy hz0
            go_upto_region 7 with (fail)
            have kS : Hid (∀ W W' : World, (W.cell? ⟨n₀, 0, none⟩ = some (.int .i64 x.k) ∧ W.cell? ⟨n₀, 1, none⟩ = some (.int .i64 x.r) ∧ W.cell? ⟨n₀, 2, none⟩ = some (.int .i64 x.o) ∧ W.cell? ⟨n₀, 3, none⟩ = some (.int .i64 x.n) ∧ W.cell? ⟨n₀, 4, none⟩ = some (.string x.s) ∧ W.cell? ⟨n₀, 5, none⟩ = some (.int .i64 x.w) ∧ W.cell? ⟨n₀, 6, none⟩ = some (.int .i64 x.h) ∧ W.cell? ⟨n₀, 7, none⟩ = some (.int .i64 x.t) ∧ W.cell? ⟨n₀, 8, none⟩ = some (.int .i64 x.c) ∧ W.cell? ⟨n₀, 9, none⟩ = some (.int .i64 x.i) ∧ W.cell? ⟨n₀ + 1, 0, none⟩ = some (.int .i64 y.k) ∧ W.cell? ⟨n₀ + 1, 1, none⟩ = some (.int .i64 y.r) ∧ W.cell? ⟨n₀ + 1, 2, none⟩ = some (.int .i64 y.o) ∧ W.cell? ⟨n₀ + 1, 3, none⟩ = some (.int .i64 y.n) ∧ W.cell? ⟨n₀ + 1, 4, none⟩ = some (.string y.s) ∧ W.cell? ⟨n₀ + 1, 5, none⟩ = some (.int .i64 y.w) ∧ W.cell? ⟨n₀ + 1, 6, none⟩ = some (.int .i64 y.h) ∧ W.cell? ⟨n₀ + 1, 7, none⟩ = some (.int .i64 y.t) ∧ W.cell? ⟨n₀ + 1, 8, none⟩ = some (.int .i64 y.c) ∧ W.cell? ⟨n₀ + 1, 9, none⟩ = some (.int .i64 y.i) ∧ W.cell? ⟨n5, 0, none⟩ = some (.int .i64 o.k) ∧ W.cell? ⟨n5, 1, none⟩ = some (.int .i64 o.r) ∧ W.cell? ⟨n5, 2, none⟩ = some (.int .i64 o.o) ∧ W.cell? ⟨n5, 3, none⟩ = some (.int .i64 o.n) ∧ W.cell? ⟨n5, 4, none⟩ = some (.string o.s) ∧ W.cell? ⟨n5, 5, none⟩ = some (.int .i64 o.w) ∧ W.cell? ⟨n5, 6, none⟩ = some (.int .i64 o.h) ∧ W.cell? ⟨n5, 7, none⟩ = some (.int .i64 o.t) ∧ W.cell? ⟨n5, 8, none⟩ = some (.int .i64 o.c) ∧ W.cell? ⟨n5, 9, none⟩ = some (.int .i64 o.i) ∧ W.cell? ⟨n6, 0, none⟩ = some (.int .i64 o.k) ∧ W.cell? ⟨n6, 1, none⟩ = some (.int .i64 o.r) ∧ W.cell? ⟨n6, 2, none⟩ = some (.int .i64 o.o) ∧ W.cell? ⟨n6, 3, none⟩ = some (.int .i64 o.n) ∧ W.cell? ⟨n6, 4, none⟩ = some (.string o.s) ∧ W.cell? ⟨n6, 5, none⟩ = some (.int .i64 o.w) ∧ W.cell? ⟨n6, 6, none⟩ = some (.int .i64 o.h) ∧ W.cell? ⟨n6, 7, none⟩ = some (.int .i64 o.t) ∧ W.cell? ⟨n6, 8, none⟩ = some (.int .i64 o.c) ∧ W.cell? ⟨n6, 9, none⟩ = some (.int .i64 o.i) ∧ W.cell? ⟨n6, 10, none⟩ = some (.bool false) ∧ W.heap[n₀]? = some (.cells #[.int .i64 x.k, .int .i64 x.r, .int .i64 x.o, .int .i64 x.n, .string x.s, .int .i64 x.w, .int .i64 x.h, .int .i64 x.t, .int .i64 x.c, .int .i64 x.i] 25 (0, 0)) ∧ W.heap[n₀ + 1]? = some (.cells #[.int .i64 y.k, .int .i64 y.r, .int .i64 y.o, .int .i64 y.n, .string y.s, .int .i64 y.w, .int .i64 y.h, .int .i64 y.t, .int .i64 y.c, .int .i64 y.i] 25 (0, 0)) ∧ W.heap[n5]? = some (.cells #[.int .i64 o.k, .int .i64 o.r, .int .i64 o.o, .int .i64 o.n, .string o.s, .int .i64 o.w, .int .i64 o.h, .int .i64 o.t, .int .i64 o.c, .int .i64 o.i] 25 (0, 0)) ∧ W.heap[n6]? = some (.cells #[.int .i64 o.k, .int .i64 o.r, .int .i64 o.o, .int .i64 o.n, .string o.s, .int .i64 o.w, .int .i64 o.h, .int .i64 o.t, .int .i64 o.c, .int .i64 o.i, .bool false] 31 (0, 0)) ∧ Below n₀ w W) → Below W.heap.size W W' → (W'.cell? ⟨n₀, 0, none⟩ = some (.int .i64 x.k) ∧ W'.cell? ⟨n₀, 1, none⟩ = some (.int .i64 x.r) ∧ W'.cell? ⟨n₀, 2, none⟩ = some (.int .i64 x.o) ∧ W'.cell? ⟨n₀, 3, none⟩ = some (.int .i64 x.n) ∧ W'.cell? ⟨n₀, 4, none⟩ = some (.string x.s) ∧ W'.cell? ⟨n₀, 5, none⟩ = some (.int .i64 x.w) ∧ W'.cell? ⟨n₀, 6, none⟩ = some (.int .i64 x.h) ∧ W'.cell? ⟨n₀, 7, none⟩ = some (.int .i64 x.t) ∧ W'.cell? ⟨n₀, 8, none⟩ = some (.int .i64 x.c) ∧ W'.cell? ⟨n₀, 9, none⟩ = some (.int .i64 x.i) ∧ W'.cell? ⟨n₀ + 1, 0, none⟩ = some (.int .i64 y.k) ∧ W'.cell? ⟨n₀ + 1, 1, none⟩ = some (.int .i64 y.r) ∧ W'.cell? ⟨n₀ + 1, 2, none⟩ = some (.int .i64 y.o) ∧ W'.cell? ⟨n₀ + 1, 3, none⟩ = some (.int .i64 y.n) ∧ W'.cell? ⟨n₀ + 1, 4, none⟩ = some (.string y.s) ∧ W'.cell? ⟨n₀ + 1, 5, none⟩ = some (.int .i64 y.w) ∧ W'.cell? ⟨n₀ + 1, 6, none⟩ = some (.int .i64 y.h) ∧ W'.cell? ⟨n₀ + 1, 7, none⟩ = some (.int .i64 y.t) ∧ W'.cell? ⟨n₀ + 1, 8, none⟩ = some (.int .i64 y.c) ∧ W'.cell? ⟨n₀ + 1, 9, none⟩ = some (.int .i64 y.i) ∧ W'.cell? ⟨n5, 0, none⟩ = some (.int .i64 o.k) ∧ W'.cell? ⟨n5, 1, none⟩ = some (.int .i64 o.r) ∧ W'.cell? ⟨n5, 2, none⟩ = some (.int .i64 o.o) ∧ W'.cell? ⟨n5, 3, none⟩ = some (.int .i64 o.n) ∧ W'.cell? ⟨n5, 4, none⟩ = some (.string o.s) ∧ W'.cell? ⟨n5, 5, none⟩ = some (.int .i64 o.w) ∧ W'.cell? ⟨n5, 6, none⟩ = some (.int .i64 o.h) ∧ W'.cell? ⟨n5, 7, none⟩ = some (.int .i64 o.t) ∧ W'.cell? ⟨n5, 8, none⟩ = some (.int .i64 o.c) ∧ W'.cell? ⟨n5, 9, none⟩ = some (.int .i64 o.i) ∧ W'.cell? ⟨n6, 0, none⟩ = some (.int .i64 o.k) ∧ W'.cell? ⟨n6, 1, none⟩ = some (.int .i64 o.r) ∧ W'.cell? ⟨n6, 2, none⟩ = some (.int .i64 o.o) ∧ W'.cell? ⟨n6, 3, none⟩ = some (.int .i64 o.n) ∧ W'.cell? ⟨n6, 4, none⟩ = some (.string o.s) ∧ W'.cell? ⟨n6, 5, none⟩ = some (.int .i64 o.w) ∧ W'.cell? ⟨n6, 6, none⟩ = some (.int .i64 o.h) ∧ W'.cell? ⟨n6, 7, none⟩ = some (.int .i64 o.t) ∧ W'.cell? ⟨n6, 8, none⟩ = some (.int .i64 o.c) ∧ W'.cell? ⟨n6, 9, none⟩ = some (.int .i64 o.i) ∧ W'.cell? ⟨n6, 10, none⟩ = some (.bool false) ∧ W'.heap[n₀]? = some (.cells #[.int .i64 x.k, .int .i64 x.r, .int .i64 x.o, .int .i64 x.n, .string x.s, .int .i64 x.w, .int .i64 x.h, .int .i64 x.t, .int .i64 x.c, .int .i64 x.i] 25 (0, 0)) ∧ W'.heap[n₀ + 1]? = some (.cells #[.int .i64 y.k, .int .i64 y.r, .int .i64 y.o, .int .i64 y.n, .string y.s, .int .i64 y.w, .int .i64 y.h, .int .i64 y.t, .int .i64 y.c, .int .i64 y.i] 25 (0, 0)) ∧ W'.heap[n5]? = some (.cells #[.int .i64 o.k, .int .i64 o.r, .int .i64 o.o, .int .i64 o.n, .string o.s, .int .i64 o.w, .int .i64 o.h, .int .i64 o.t, .int .i64 o.c, .int .i64 o.i] 25 (0, 0)) ∧ W'.heap[n6]? = some (.cells #[.int .i64 o.k, .int .i64 o.r, .int .i64 o.o, .int .i64 o.n, .string o.s, .int .i64 o.w, .int .i64 o.h, .int .i64 o.t, .int .i64 o.c, .int .i64 o.i, .bool false] 31 (0, 0)) ∧ Below n₀ w W')) := hid (by rintro W W' ⟨r0, r1, r2, r3, r4, r5, r6, r7, r8, r9, r10, r11, r12, r13, r14, r15, r16, r17, r18, r19, r20, r21, r22, r23, r24, r25, r26, r27, r28, r29, r30, r31, r32, r33, r34, r35, r36, r37, r38, r39, r40, p1, p2, p3, p4, pB⟩ hb9; have kk9 := Kept.of_below hb9 0; exact ⟨kk9.cell r0, kk9.cell r1, kk9.cell r2, kk9.cell r3, kk9.cell r4, kk9.cell r5, kk9.cell r6, kk9.cell r7, kk9.cell r8, kk9.cell r9, kk9.cell r10, kk9.cell r11, kk9.cell r12, kk9.cell r13, kk9.cell r14, kk9.cell r15, kk9.cell r16, kk9.cell r17, kk9.cell r18, kk9.cell r19, kk9.cell r20, kk9.cell r21, kk9.cell r22, kk9.cell r23, kk9.cell r24, kk9.cell r25, kk9.cell r26, kk9.cell r27, kk9.cell r28, kk9.cell r29, kk9.cell r30, kk9.cell r31, kk9.cell r32, kk9.cell r33, kk9.cell r34, kk9.cell r35, kk9.cell r36, kk9.cell r37, kk9.cell r38, kk9.cell r39, kk9.cell r40, kk9.same _ _ p1 (.inl rfl), kk9.same _ _ p2 (.inl rfl), kk9.same _ _ p3 (.inl rfl), kk9.same _ _ p4 (.inl rfl), pB.trans (hb9.mono (by have := pB.size; omega))⟩)
            have fS : Hid (∀ W : World, (W.cell? ⟨n₀, 0, none⟩ = some (.int .i64 x.k) ∧ W.cell? ⟨n₀, 1, none⟩ = some (.int .i64 x.r) ∧ W.cell? ⟨n₀, 2, none⟩ = some (.int .i64 x.o) ∧ W.cell? ⟨n₀, 3, none⟩ = some (.int .i64 x.n) ∧ W.cell? ⟨n₀, 4, none⟩ = some (.string x.s) ∧ W.cell? ⟨n₀, 5, none⟩ = some (.int .i64 x.w) ∧ W.cell? ⟨n₀, 6, none⟩ = some (.int .i64 x.h) ∧ W.cell? ⟨n₀, 7, none⟩ = some (.int .i64 x.t) ∧ W.cell? ⟨n₀, 8, none⟩ = some (.int .i64 x.c) ∧ W.cell? ⟨n₀, 9, none⟩ = some (.int .i64 x.i) ∧ W.cell? ⟨n₀ + 1, 0, none⟩ = some (.int .i64 y.k) ∧ W.cell? ⟨n₀ + 1, 1, none⟩ = some (.int .i64 y.r) ∧ W.cell? ⟨n₀ + 1, 2, none⟩ = some (.int .i64 y.o) ∧ W.cell? ⟨n₀ + 1, 3, none⟩ = some (.int .i64 y.n) ∧ W.cell? ⟨n₀ + 1, 4, none⟩ = some (.string y.s) ∧ W.cell? ⟨n₀ + 1, 5, none⟩ = some (.int .i64 y.w) ∧ W.cell? ⟨n₀ + 1, 6, none⟩ = some (.int .i64 y.h) ∧ W.cell? ⟨n₀ + 1, 7, none⟩ = some (.int .i64 y.t) ∧ W.cell? ⟨n₀ + 1, 8, none⟩ = some (.int .i64 y.c) ∧ W.cell? ⟨n₀ + 1, 9, none⟩ = some (.int .i64 y.i) ∧ W.cell? ⟨n5, 0, none⟩ = some (.int .i64 o.k) ∧ W.cell? ⟨n5, 1, none⟩ = some (.int .i64 o.r) ∧ W.cell? ⟨n5, 2, none⟩ = some (.int .i64 o.o) ∧ W.cell? ⟨n5, 3, none⟩ = some (.int .i64 o.n) ∧ W.cell? ⟨n5, 4, none⟩ = some (.string o.s) ∧ W.cell? ⟨n5, 5, none⟩ = some (.int .i64 o.w) ∧ W.cell? ⟨n5, 6, none⟩ = some (.int .i64 o.h) ∧ W.cell? ⟨n5, 7, none⟩ = some (.int .i64 o.t) ∧ W.cell? ⟨n5, 8, none⟩ = some (.int .i64 o.c) ∧ W.cell? ⟨n5, 9, none⟩ = some (.int .i64 o.i) ∧ W.cell? ⟨n6, 0, none⟩ = some (.int .i64 o.k) ∧ W.cell? ⟨n6, 1, none⟩ = some (.int .i64 o.r) ∧ W.cell? ⟨n6, 2, none⟩ = some (.int .i64 o.o) ∧ W.cell? ⟨n6, 3, none⟩ = some (.int .i64 o.n) ∧ W.cell? ⟨n6, 4, none⟩ = some (.string o.s) ∧ W.cell? ⟨n6, 5, none⟩ = some (.int .i64 o.w) ∧ W.cell? ⟨n6, 6, none⟩ = some (.int .i64 o.h) ∧ W.cell? ⟨n6, 7, none⟩ = some (.int .i64 o.t) ∧ W.cell? ⟨n6, 8, none⟩ = some (.int .i64 o.c) ∧ W.cell? ⟨n6, 9, none⟩ = some (.int .i64 o.i) ∧ W.cell? ⟨n6, 10, none⟩ = some (.bool false) ∧ W.heap[n₀]? = some (.cells #[.int .i64 x.k, .int .i64 x.r, .int .i64 x.o, .int .i64 x.n, .string x.s, .int .i64 x.w, .int .i64 x.h, .int .i64 x.t, .int .i64 x.c, .int .i64 x.i] 25 (0, 0)) ∧ W.heap[n₀ + 1]? = some (.cells #[.int .i64 y.k, .int .i64 y.r, .int .i64 y.o, .int .i64 y.n, .string y.s, .int .i64 y.w, .int .i64 y.h, .int .i64 y.t, .int .i64 y.c, .int .i64 y.i] 25 (0, 0)) ∧ W.heap[n5]? = some (.cells #[.int .i64 o.k, .int .i64 o.r, .int .i64 o.o, .int .i64 o.n, .string o.s, .int .i64 o.w, .int .i64 o.h, .int .i64 o.t, .int .i64 o.c, .int .i64 o.i] 25 (0, 0)) ∧ W.heap[n6]? = some (.cells #[.int .i64 o.k, .int .i64 o.r, .int .i64 o.o, .int .i64 o.n, .string o.s, .int .i64 o.w, .int .i64 o.h, .int .i64 o.t, .int .i64 o.c, .int .i64 o.i, .bool false] 31 (0, 0)) ∧ Below n₀ w W) → Below n₀ w W) := hid (by rintro W ⟨r0, r1, r2, r3, r4, r5, r6, r7, r8, r9, r10, r11, r12, r13, r14, r15, r16, r17, r18, r19, r20, r21, r22, r23, r24, r25, r26, r27, r28, r29, r30, r31, r32, r33, r34, r35, r36, r37, r38, r39, r40, p1, p2, p3, p4, pB⟩; exact pB)
            have st : Hid (w4.drew.cell? ⟨n₀, 0, none⟩ = some (.int .i64 x.k) ∧ w4.drew.cell? ⟨n₀, 1, none⟩ = some (.int .i64 x.r) ∧ w4.drew.cell? ⟨n₀, 2, none⟩ = some (.int .i64 x.o) ∧ w4.drew.cell? ⟨n₀, 3, none⟩ = some (.int .i64 x.n) ∧ w4.drew.cell? ⟨n₀, 4, none⟩ = some (.string x.s) ∧ w4.drew.cell? ⟨n₀, 5, none⟩ = some (.int .i64 x.w) ∧ w4.drew.cell? ⟨n₀, 6, none⟩ = some (.int .i64 x.h) ∧ w4.drew.cell? ⟨n₀, 7, none⟩ = some (.int .i64 x.t) ∧ w4.drew.cell? ⟨n₀, 8, none⟩ = some (.int .i64 x.c) ∧ w4.drew.cell? ⟨n₀, 9, none⟩ = some (.int .i64 x.i) ∧ w4.drew.cell? ⟨n₀ + 1, 0, none⟩ = some (.int .i64 y.k) ∧ w4.drew.cell? ⟨n₀ + 1, 1, none⟩ = some (.int .i64 y.r) ∧ w4.drew.cell? ⟨n₀ + 1, 2, none⟩ = some (.int .i64 y.o) ∧ w4.drew.cell? ⟨n₀ + 1, 3, none⟩ = some (.int .i64 y.n) ∧ w4.drew.cell? ⟨n₀ + 1, 4, none⟩ = some (.string y.s) ∧ w4.drew.cell? ⟨n₀ + 1, 5, none⟩ = some (.int .i64 y.w) ∧ w4.drew.cell? ⟨n₀ + 1, 6, none⟩ = some (.int .i64 y.h) ∧ w4.drew.cell? ⟨n₀ + 1, 7, none⟩ = some (.int .i64 y.t) ∧ w4.drew.cell? ⟨n₀ + 1, 8, none⟩ = some (.int .i64 y.c) ∧ w4.drew.cell? ⟨n₀ + 1, 9, none⟩ = some (.int .i64 y.i) ∧ w4.drew.cell? ⟨n5, 0, none⟩ = some (.int .i64 o.k) ∧ w4.drew.cell? ⟨n5, 1, none⟩ = some (.int .i64 o.r) ∧ w4.drew.cell? ⟨n5, 2, none⟩ = some (.int .i64 o.o) ∧ w4.drew.cell? ⟨n5, 3, none⟩ = some (.int .i64 o.n) ∧ w4.drew.cell? ⟨n5, 4, none⟩ = some (.string o.s) ∧ w4.drew.cell? ⟨n5, 5, none⟩ = some (.int .i64 o.w) ∧ w4.drew.cell? ⟨n5, 6, none⟩ = some (.int .i64 o.h) ∧ w4.drew.cell? ⟨n5, 7, none⟩ = some (.int .i64 o.t) ∧ w4.drew.cell? ⟨n5, 8, none⟩ = some (.int .i64 o.c) ∧ w4.drew.cell? ⟨n5, 9, none⟩ = some (.int .i64 o.i) ∧ w4.drew.cell? ⟨n6, 0, none⟩ = some (.int .i64 o.k) ∧ w4.drew.cell? ⟨n6, 1, none⟩ = some (.int .i64 o.r) ∧ w4.drew.cell? ⟨n6, 2, none⟩ = some (.int .i64 o.o) ∧ w4.drew.cell? ⟨n6, 3, none⟩ = some (.int .i64 o.n) ∧ w4.drew.cell? ⟨n6, 4, none⟩ = some (.string o.s) ∧ w4.drew.cell? ⟨n6, 5, none⟩ = some (.int .i64 o.w) ∧ w4.drew.cell? ⟨n6, 6, none⟩ = some (.int .i64 o.h) ∧ w4.drew.cell? ⟨n6, 7, none⟩ = some (.int .i64 o.t) ∧ w4.drew.cell? ⟨n6, 8, none⟩ = some (.int .i64 o.c) ∧ w4.drew.cell? ⟨n6, 9, none⟩ = some (.int .i64 o.i) ∧ w4.drew.cell? ⟨n6, 10, none⟩ = some (.bool false) ∧ w4.drew.heap[n₀]? = some (.cells #[.int .i64 x.k, .int .i64 x.r, .int .i64 x.o, .int .i64 x.n, .string x.s, .int .i64 x.w, .int .i64 x.h, .int .i64 x.t, .int .i64 x.c, .int .i64 x.i] 25 (0, 0)) ∧ w4.drew.heap[n₀ + 1]? = some (.cells #[.int .i64 y.k, .int .i64 y.r, .int .i64 y.o, .int .i64 y.n, .string y.s, .int .i64 y.w, .int .i64 y.h, .int .i64 y.t, .int .i64 y.c, .int .i64 y.i] 25 (0, 0)) ∧ w4.drew.heap[n5]? = some (.cells #[.int .i64 o.k, .int .i64 o.r, .int .i64 o.o, .int .i64 o.n, .string o.s, .int .i64 o.w, .int .i64 o.h, .int .i64 o.t, .int .i64 o.c, .int .i64 o.i] 25 (0, 0)) ∧ w4.drew.heap[n6]? = some (.cells #[.int .i64 o.k, .int .i64 o.r, .int .i64 o.o, .int .i64 o.n, .string o.s, .int .i64 o.w, .int .i64 o.h, .int .i64 o.t, .int .i64 o.c, .int .i64 o.i, .bool false] 31 (0, 0)) ∧ Below n₀ w w4.drew) := hid ⟨cell_blk (i := 0) (show w4.drew.heap[n₀]? = _ from x4) rfl, cell_blk (i := 1) (show w4.drew.heap[n₀]? = _ from x4) rfl, cell_blk (i := 2) (show w4.drew.heap[n₀]? = _ from x4) rfl, cell_blk (i := 3) (show w4.drew.heap[n₀]? = _ from x4) rfl, cell_blk (i := 4) (show w4.drew.heap[n₀]? = _ from x4) rfl, cell_blk (i := 5) (show w4.drew.heap[n₀]? = _ from x4) rfl, cell_blk (i := 6) (show w4.drew.heap[n₀]? = _ from x4) rfl, cell_blk (i := 7) (show w4.drew.heap[n₀]? = _ from x4) rfl, cell_blk (i := 8) (show w4.drew.heap[n₀]? = _ from x4) rfl, cell_blk (i := 9) (show w4.drew.heap[n₀]? = _ from x4) rfl, cell_blk (i := 0) (show w4.drew.heap[n₀ + 1]? = _ from yy4) rfl, cell_blk (i := 1) (show w4.drew.heap[n₀ + 1]? = _ from yy4) rfl, cell_blk (i := 2) (show w4.drew.heap[n₀ + 1]? = _ from yy4) rfl, cell_blk (i := 3) (show w4.drew.heap[n₀ + 1]? = _ from yy4) rfl, cell_blk (i := 4) (show w4.drew.heap[n₀ + 1]? = _ from yy4) rfl, cell_blk (i := 5) (show w4.drew.heap[n₀ + 1]? = _ from yy4) rfl, cell_blk (i := 6) (show w4.drew.heap[n₀ + 1]? = _ from yy4) rfl, cell_blk (i := 7) (show w4.drew.heap[n₀ + 1]? = _ from yy4) rfl, cell_blk (i := 8) (show w4.drew.heap[n₀ + 1]? = _ from yy4) rfl, cell_blk (i := 9) (show w4.drew.heap[n₀ + 1]? = _ from yy4) rfl, cell_blk (i := 0) (show w4.drew.heap[n5]? = _ from o4) rfl, cell_blk (i := 1) (show w4.drew.heap[n5]? = _ from o4) rfl, cell_blk (i := 2) (show w4.drew.heap[n5]? = _ from o4) rfl, cell_blk (i := 3) (show w4.drew.heap[n5]? = _ from o4) rfl, cell_blk (i := 4) (show w4.drew.heap[n5]? = _ from o4) rfl, cell_blk (i := 5) (show w4.drew.heap[n5]? = _ from o4) rfl, cell_blk (i := 6) (show w4.drew.heap[n5]? = _ from o4) rfl, cell_blk (i := 7) (show w4.drew.heap[n5]? = _ from o4) rfl, cell_blk (i := 8) (show w4.drew.heap[n5]? = _ from o4) rfl, cell_blk (i := 9) (show w4.drew.heap[n5]? = _ from o4) rfl, cell_blk (i := 0) (show w4.drew.heap[n6]? = _ from g4) rfl, cell_blk (i := 1) (show w4.drew.heap[n6]? = _ from g4) rfl, cell_blk (i := 2) (show w4.drew.heap[n6]? = _ from g4) rfl, cell_blk (i := 3) (show w4.drew.heap[n6]? = _ from g4) rfl, cell_blk (i := 4) (show w4.drew.heap[n6]? = _ from g4) rfl, cell_blk (i := 5) (show w4.drew.heap[n6]? = _ from g4) rfl, cell_blk (i := 6) (show w4.drew.heap[n6]? = _ from g4) rfl, cell_blk (i := 7) (show w4.drew.heap[n6]? = _ from g4) rfl, cell_blk (i := 8) (show w4.drew.heap[n6]? = _ from g4) rfl, cell_blk (i := 9) (show w4.drew.heap[n6]? = _ from g4) rfl, cell_blk (i := 10) (show w4.drew.heap[n6]? = _ from g4) rfl, x4, yy4, o4, g4, B4.drewN 1⟩
            clear x4 yy4 o4 g4 B4
            refine wp_region_held_drew (S := (fun W => W.cell? ⟨n₀, 0, none⟩ = some (.int .i64 x.k) ∧ W.cell? ⟨n₀, 1, none⟩ = some (.int .i64 x.r) ∧ W.cell? ⟨n₀, 2, none⟩ = some (.int .i64 x.o) ∧ W.cell? ⟨n₀, 3, none⟩ = some (.int .i64 x.n) ∧ W.cell? ⟨n₀, 4, none⟩ = some (.string x.s) ∧ W.cell? ⟨n₀, 5, none⟩ = some (.int .i64 x.w) ∧ W.cell? ⟨n₀, 6, none⟩ = some (.int .i64 x.h) ∧ W.cell? ⟨n₀, 7, none⟩ = some (.int .i64 x.t) ∧ W.cell? ⟨n₀, 8, none⟩ = some (.int .i64 x.c) ∧ W.cell? ⟨n₀, 9, none⟩ = some (.int .i64 x.i) ∧ W.cell? ⟨n₀ + 1, 0, none⟩ = some (.int .i64 y.k) ∧ W.cell? ⟨n₀ + 1, 1, none⟩ = some (.int .i64 y.r) ∧ W.cell? ⟨n₀ + 1, 2, none⟩ = some (.int .i64 y.o) ∧ W.cell? ⟨n₀ + 1, 3, none⟩ = some (.int .i64 y.n) ∧ W.cell? ⟨n₀ + 1, 4, none⟩ = some (.string y.s) ∧ W.cell? ⟨n₀ + 1, 5, none⟩ = some (.int .i64 y.w) ∧ W.cell? ⟨n₀ + 1, 6, none⟩ = some (.int .i64 y.h) ∧ W.cell? ⟨n₀ + 1, 7, none⟩ = some (.int .i64 y.t) ∧ W.cell? ⟨n₀ + 1, 8, none⟩ = some (.int .i64 y.c) ∧ W.cell? ⟨n₀ + 1, 9, none⟩ = some (.int .i64 y.i) ∧ W.cell? ⟨n5, 0, none⟩ = some (.int .i64 o.k) ∧ W.cell? ⟨n5, 1, none⟩ = some (.int .i64 o.r) ∧ W.cell? ⟨n5, 2, none⟩ = some (.int .i64 o.o) ∧ W.cell? ⟨n5, 3, none⟩ = some (.int .i64 o.n) ∧ W.cell? ⟨n5, 4, none⟩ = some (.string o.s) ∧ W.cell? ⟨n5, 5, none⟩ = some (.int .i64 o.w) ∧ W.cell? ⟨n5, 6, none⟩ = some (.int .i64 o.h) ∧ W.cell? ⟨n5, 7, none⟩ = some (.int .i64 o.t) ∧ W.cell? ⟨n5, 8, none⟩ = some (.int .i64 o.c) ∧ W.cell? ⟨n5, 9, none⟩ = some (.int .i64 o.i) ∧ W.cell? ⟨n6, 0, none⟩ = some (.int .i64 o.k) ∧ W.cell? ⟨n6, 1, none⟩ = some (.int .i64 o.r) ∧ W.cell? ⟨n6, 2, none⟩ = some (.int .i64 o.o) ∧ W.cell? ⟨n6, 3, none⟩ = some (.int .i64 o.n) ∧ W.cell? ⟨n6, 4, none⟩ = some (.string o.s) ∧ W.cell? ⟨n6, 5, none⟩ = some (.int .i64 o.w) ∧ W.cell? ⟨n6, 6, none⟩ = some (.int .i64 o.h) ∧ W.cell? ⟨n6, 7, none⟩ = some (.int .i64 o.t) ∧ W.cell? ⟨n6, 8, none⟩ = some (.int .i64 o.c) ∧ W.cell? ⟨n6, 9, none⟩ = some (.int .i64 o.i) ∧ W.cell? ⟨n6, 10, none⟩ = some (.bool false) ∧ W.heap[n₀]? = some (.cells #[.int .i64 x.k, .int .i64 x.r, .int .i64 x.o, .int .i64 x.n, .string x.s, .int .i64 x.w, .int .i64 x.h, .int .i64 x.t, .int .i64 x.c, .int .i64 x.i] 25 (0, 0)) ∧ W.heap[n₀ + 1]? = some (.cells #[.int .i64 y.k, .int .i64 y.r, .int .i64 y.o, .int .i64 y.n, .string y.s, .int .i64 y.w, .int .i64 y.h, .int .i64 y.t, .int .i64 y.c, .int .i64 y.i] 25 (0, 0)) ∧ W.heap[n5]? = some (.cells #[.int .i64 o.k, .int .i64 o.r, .int .i64 o.o, .int .i64 o.n, .string o.s, .int .i64 o.w, .int .i64 o.h, .int .i64 o.t, .int .i64 o.c, .int .i64 o.i] 25 (0, 0)) ∧ W.heap[n6]? = some (.cells #[.int .i64 o.k, .int .i64 o.r, .int .i64 o.o, .int .i64 o.n, .string o.s, .int .i64 o.w, .int .i64 o.h, .int .i64 o.t, .int .i64 o.c, .int .i64 o.i, .bool false] 31 (0, 0)) ∧ Below n₀ w W)) (by kernel_rfl) (Hid.out st) (fun hHeld => ?_)
            refine wpAnyH_take (i := 0) (oi := ⟨some 43, _, _, _, _, _⟩) (v := ?_) rfl (by kernel_rfl) (by kernel_rfl) (by kernel_rfl) (fun _ _ _ h => h) (Or.inl ⟨by rfl, ?_⟩) (by assumption) ?_
            rotate_left
            · intro w hSw; (try dsimp only at hSw); go_simp <;> with_reducible rfl
            try simp only [Act.put, List.setIfInBounds_toArray, List.set_cons_zero, List.set_cons_succ]
            refine wpAnyH_take (i := 1) (oi := ⟨some 44, _, _, _, _, _⟩) (v := ?_) rfl (by kernel_rfl) (by kernel_rfl) (by kernel_rfl) (fun _ _ _ h => h) (Or.inl ⟨by rfl, ?_⟩) (by assumption) ?_
            rotate_left
            · intro w hSw; (try dsimp only at hSw); go_simp <;> with_reducible rfl
            try simp only [Act.put, List.setIfInBounds_toArray, List.set_cons_zero, List.set_cons_succ]
            refine wpAnyH_take (i := 2) (oi := ⟨some 45, _, _, _, _, _⟩) (v := ?_) rfl (by kernel_rfl) (by kernel_rfl) (by kernel_rfl) (fun _ _ _ h => h) (Or.inl ⟨by rfl, ?_⟩) (by assumption) ?_
            rotate_left
            · intro w hSw; (try dsimp only at hSw); go_simp <;> with_reducible rfl
            try simp only [Act.put, List.setIfInBounds_toArray, List.set_cons_zero, List.set_cons_succ]
            refine wpAnyH_take (i := 3) (oi := ⟨some 46, _, _, _, _, _⟩) (v := ?_) rfl (by kernel_rfl) (by kernel_rfl) (by kernel_rfl) (fun _ _ _ h => h) (Or.inl ⟨by rfl, ?_⟩) (by assumption) ?_
            rotate_left
            · intro w hSw; (try dsimp only at hSw); go_simp <;> with_reducible rfl
            try simp only [Act.put, List.setIfInBounds_toArray, List.set_cons_zero, List.set_cons_succ]
            refine wpAnyH_take (i := 4) (oi := ⟨some 47, _, _, _, _, _⟩) (v := ?_) rfl (by kernel_rfl) (by kernel_rfl) (by kernel_rfl) (fun _ _ _ h => h) (Or.inl ⟨by rfl, ?_⟩) (by assumption) ?_
            rotate_left
            · intro w hSw; (try dsimp only at hSw); go_simp <;> with_reducible rfl
            try simp only [Act.put, List.setIfInBounds_toArray, List.set_cons_zero, List.set_cons_succ]
            refine wpAnyH_take (i := 5) (oi := ⟨some 48, _, _, _, _, _⟩) (v := ?_) rfl (by kernel_rfl) (by kernel_rfl) (by kernel_rfl) (fun _ _ _ h => h) (Or.inl ⟨by rfl, ?_⟩) (by assumption) ?_
            rotate_left
            · intro w hSw; (try dsimp only at hSw); go_simp <;> with_reducible rfl
            try simp only [Act.put, List.setIfInBounds_toArray, List.set_cons_zero, List.set_cons_succ]
            refine wpAnyH_take (i := 6) (oi := ⟨some 49, _, _, _, _, _⟩) (v := ?_) rfl (by kernel_rfl) (by kernel_rfl) (by kernel_rfl) (fun _ _ _ h => h) (Or.inl ⟨by rfl, ?_⟩) (by assumption) ?_
            rotate_left
            · intro w hSw; (try dsimp only at hSw); go_simp <;> with_reducible rfl
            try simp only [Act.put, List.setIfInBounds_toArray, List.set_cons_zero, List.set_cons_succ]
            refine wpAnyH_take (i := 7) (oi := ⟨some 50, _, _, _, _, _⟩) (v := ?_) rfl (by kernel_rfl) (by kernel_rfl) (by kernel_rfl) (fun _ _ _ h => h) (Or.inl ⟨by rfl, ?_⟩) (by assumption) ?_
            rotate_left
            · intro w hSw; (try dsimp only at hSw); go_simp <;> with_reducible rfl
            try simp only [Act.put, List.setIfInBounds_toArray, List.set_cons_zero, List.set_cons_succ]
            refine wpAnyH_take (i := 8) (oi := ⟨some 51, _, _, _, _, _⟩) (v := ?_) rfl (by kernel_rfl) (by kernel_rfl) (by kernel_rfl) (fun _ _ _ h => h) (Or.inl ⟨by rfl, ?_⟩) (by assumption) ?_
            rotate_left
            · intro w hSw; (try dsimp only at hSw); go_simp <;> with_reducible rfl
            try simp only [Act.put, List.setIfInBounds_toArray, List.set_cons_zero, List.set_cons_succ]
            refine wpAnyH_take (i := 9) (oi := ⟨some 52, _, _, _, _, _⟩) (v := ?_) rfl (by kernel_rfl) (by kernel_rfl) (by kernel_rfl) (fun _ _ _ h => h) (Or.inl ⟨by rfl, ?_⟩) (by assumption) ?_
            rotate_left
            · intro w hSw; (try dsimp only at hSw); go_simp <;> with_reducible rfl
            try simp only [Act.put, List.setIfInBounds_toArray, List.set_cons_zero, List.set_cons_succ]
            refine wpAnyH_take (i := 10) (oi := ⟨some 53, _, _, _, _, _⟩) (v := ?_) rfl (by kernel_rfl) (by kernel_rfl) (by kernel_rfl) (fun _ _ _ h => h) (Or.inl ⟨by rfl, ?_⟩) (by assumption) ?_
            rotate_left
            · intro w hSw; (try dsimp only at hSw); go_simp <;> with_reducible rfl
            try simp only [Act.put, List.setIfInBounds_toArray, List.set_cons_zero, List.set_cons_succ]
            refine wpAnyH_take (i := 11) (oi := ⟨some 54, _, _, _, _, _⟩) (v := ?_) rfl (by kernel_rfl) (by kernel_rfl) (by kernel_rfl) (fun _ _ _ h => h) (Or.inl ⟨by rfl, ?_⟩) (by assumption) ?_
            rotate_left
            · intro w hSw; (try dsimp only at hSw); go_simp <;> with_reducible rfl
            try simp only [Act.put, List.setIfInBounds_toArray, List.set_cons_zero, List.set_cons_succ]
            refine wpAnyH_take (i := 12) (oi := ⟨some 55, _, _, _, _, _⟩) (v := ?_) rfl (by kernel_rfl) (by kernel_rfl) (by kernel_rfl) (fun _ _ _ h => h) (Or.inl ⟨by rfl, ?_⟩) (by assumption) ?_
            rotate_left
            · intro w hSw; (try dsimp only at hSw); go_simp <;> with_reducible rfl
            try simp only [Act.put, List.setIfInBounds_toArray, List.set_cons_zero, List.set_cons_succ]
            refine wpAnyH_take (i := 13) (oi := ⟨some 56, _, _, _, _, _⟩) (v := ?_) rfl (by kernel_rfl) (by kernel_rfl) (by kernel_rfl) (fun _ _ _ h => h) (Or.inl ⟨by rfl, ?_⟩) (by assumption) ?_
            rotate_left
            · intro w hSw; (try dsimp only at hSw); go_simp <;> with_reducible rfl
            try simp only [Act.put, List.setIfInBounds_toArray, List.set_cons_zero, List.set_cons_succ]
            refine wpAnyH_take (i := 14) (oi := ⟨some 57, _, _, _, _, _⟩) (v := ?_) rfl (by kernel_rfl) (by kernel_rfl) (by kernel_rfl) (fun _ _ _ h => h) (Or.inl ⟨by rfl, ?_⟩) (by assumption) ?_
            rotate_left
            · intro w hSw; (try dsimp only at hSw); go_simp <;> with_reducible rfl
            try simp only [Act.put, List.setIfInBounds_toArray, List.set_cons_zero, List.set_cons_succ]
            refine wpAnyH_take (i := 15) (oi := ⟨some 58, _, _, _, _, _⟩) (v := ?_) rfl (by kernel_rfl) (by kernel_rfl) (by kernel_rfl) (fun _ _ _ h => h) (Or.inl ⟨by rfl, ?_⟩) (by assumption) ?_
            rotate_left
            · intro w hSw; (try dsimp only at hSw); go_simp <;> with_reducible rfl
            try simp only [Act.put, List.setIfInBounds_toArray, List.set_cons_zero, List.set_cons_succ]
            refine wpAnyH_take (i := 16) (oi := ⟨some 59, _, _, _, _, _⟩) (v := ?_) rfl (by kernel_rfl) (by kernel_rfl) (by kernel_rfl) (fun _ _ _ h => h) (Or.inl ⟨by rfl, ?_⟩) (by assumption) ?_
            rotate_left
            · intro w hSw; (try dsimp only at hSw); go_simp <;> with_reducible rfl
            try simp only [Act.put, List.setIfInBounds_toArray, List.set_cons_zero, List.set_cons_succ]
            refine wpAnyH_take (i := 17) (oi := ⟨some 60, _, _, _, _, _⟩) (v := ?_) rfl (by kernel_rfl) (by kernel_rfl) (by kernel_rfl) (fun _ _ _ h => h) (Or.inl ⟨by rfl, ?_⟩) (by assumption) ?_
            rotate_left
            · intro w hSw; (try dsimp only at hSw); go_simp <;> with_reducible rfl
            try simp only [Act.put, List.setIfInBounds_toArray, List.set_cons_zero, List.set_cons_succ]
            refine wpAnyH_take (i := 18) (oi := ⟨some 61, _, _, _, _, _⟩) (v := ?_) rfl (by kernel_rfl) (by kernel_rfl) (by kernel_rfl) (fun _ _ _ h => h) (Or.inl ⟨by rfl, ?_⟩) (by assumption) ?_
            rotate_left
            · intro w hSw; (try dsimp only at hSw); go_simp <;> with_reducible rfl
            try simp only [Act.put, List.setIfInBounds_toArray, List.set_cons_zero, List.set_cons_succ]
            refine wpAnyH_take (i := 19) (oi := ⟨some 62, _, _, _, _, _⟩) (v := ?_) rfl (by kernel_rfl) (by kernel_rfl) (by kernel_rfl) (fun _ _ _ h => h) (Or.inl ⟨by rfl, ?_⟩) (by assumption) ?_
            rotate_left
            · intro w hSw; (try dsimp only at hSw); go_simp <;> with_reducible rfl
            try simp only [Act.put, List.setIfInBounds_toArray, List.set_cons_zero, List.set_cons_succ]
            refine wpAnyH_take (i := 20) (oi := ⟨some 63, _, _, _, _, _⟩) (v := ?_) rfl (by kernel_rfl) (by kernel_rfl) (by kernel_rfl) (fun _ _ _ h => h) (Or.inl ⟨by rfl, ?_⟩) (by assumption) ?_
            rotate_left
            · intro w hSw; (try dsimp only at hSw); go_simp <;> with_reducible rfl
            try simp only [Act.put, List.setIfInBounds_toArray, List.set_cons_zero, List.set_cons_succ]
            refine wpAnyH_take (i := 21) (oi := ⟨some 64, _, _, _, _, _⟩) (v := ?_) rfl (by kernel_rfl) (by kernel_rfl) (by kernel_rfl) (fun _ _ _ h => h) (Or.inl ⟨by rfl, ?_⟩) (by assumption) ?_
            rotate_left
            · intro w hSw; (try dsimp only at hSw); go_simp <;> with_reducible rfl
            try simp only [Act.put, List.setIfInBounds_toArray, List.set_cons_zero, List.set_cons_succ]
            refine wpAnyH_take (i := 22) (oi := ⟨some 65, _, _, _, _, _⟩) (v := ?_) rfl (by kernel_rfl) (by kernel_rfl) (by kernel_rfl) (fun _ _ _ h => h) (Or.inl ⟨by rfl, ?_⟩) (by assumption) ?_
            rotate_left
            · intro w hSw; (try dsimp only at hSw); go_simp <;> with_reducible rfl
            try simp only [Act.put, List.setIfInBounds_toArray, List.set_cons_zero, List.set_cons_succ]
            refine wpAnyH_take (i := 23) (oi := ⟨some 66, _, _, _, _, _⟩) (v := ?_) rfl (by kernel_rfl) (by kernel_rfl) (by kernel_rfl) (fun _ _ _ h => h) (Or.inl ⟨by rfl, ?_⟩) (by assumption) ?_
            rotate_left
            · intro w hSw; (try dsimp only at hSw); go_simp <;> with_reducible rfl
            try simp only [Act.put, List.setIfInBounds_toArray, List.set_cons_zero, List.set_cons_succ]
            refine wpAnyH_take (i := 24) (oi := ⟨some 67, _, _, _, _, _⟩) (v := ?_) rfl (by kernel_rfl) (by kernel_rfl) (by kernel_rfl) (fun _ _ _ h => h) (Or.inl ⟨by rfl, ?_⟩) (by assumption) ?_
            rotate_left
            · intro w hSw; (try dsimp only at hSw); go_simp <;> with_reducible rfl
            try simp only [Act.put, List.setIfInBounds_toArray, List.set_cons_zero, List.set_cons_succ]
            refine wpAnyH_take (i := 25) (oi := ⟨some 68, _, _, _, _, _⟩) (v := ?_) rfl (by kernel_rfl) (by kernel_rfl) (by kernel_rfl) (fun _ _ _ h => h) (Or.inl ⟨by rfl, ?_⟩) (by assumption) ?_
            rotate_left
            · intro w hSw; (try dsimp only at hSw); go_simp <;> with_reducible rfl
            try simp only [Act.put, List.setIfInBounds_toArray, List.set_cons_zero, List.set_cons_succ]
            refine wpAnyH_take (i := 26) (oi := ⟨some 69, _, _, _, _, _⟩) (v := ?_) rfl (by kernel_rfl) (by kernel_rfl) (by kernel_rfl) (fun _ _ _ h => h) (Or.inl ⟨by rfl, ?_⟩) (by assumption) ?_
            rotate_left
            · intro w hSw; (try dsimp only at hSw); go_simp <;> with_reducible rfl
            try simp only [Act.put, List.setIfInBounds_toArray, List.set_cons_zero, List.set_cons_succ]
            refine wpAnyH_take (i := 27) (oi := ⟨some 70, _, _, _, _, _⟩) (v := ?_) rfl (by kernel_rfl) (by kernel_rfl) (by kernel_rfl) (fun _ _ _ h => h) (Or.inl ⟨by rfl, ?_⟩) (by assumption) ?_
            rotate_left
            · intro w hSw; (try dsimp only at hSw); go_simp <;> with_reducible rfl
            try simp only [Act.put, List.setIfInBounds_toArray, List.set_cons_zero, List.set_cons_succ]
            refine wpAnyH_take (i := 28) (oi := ⟨some 71, _, _, _, _, _⟩) (v := ?_) rfl (by kernel_rfl) (by kernel_rfl) (by kernel_rfl) (fun _ _ _ h => h) (Or.inl ⟨by rfl, ?_⟩) (by assumption) ?_
            rotate_left
            · intro w hSw; (try dsimp only at hSw); go_simp <;> with_reducible rfl
            try simp only [Act.put, List.setIfInBounds_toArray, List.set_cons_zero, List.set_cons_succ]
            refine wpAnyH_take (i := 29) (oi := ⟨some 72, _, _, _, _, _⟩) (v := ?_) rfl (by kernel_rfl) (by kernel_rfl) (by kernel_rfl) (fun _ _ _ h => h) (Or.inl ⟨by rfl, ?_⟩) (by assumption) ?_
            rotate_left
            · intro w hSw; (try dsimp only at hSw); go_simp <;> with_reducible rfl
            try simp only [Act.put, List.setIfInBounds_toArray, List.set_cons_zero, List.set_cons_succ]
            refine wpAnyH_take (i := 30) (oi := ⟨some 73, _, _, _, _, _⟩) (v := ?_) rfl (by kernel_rfl) (by kernel_rfl) (by kernel_rfl) (fun _ _ _ h => h) (Or.inl ⟨by rfl, ?_⟩) (by assumption) ?_
            rotate_left
            · intro w hSw; (try dsimp only at hSw); go_simp <;> with_reducible rfl
            try simp only [Act.put, List.setIfInBounds_toArray, List.set_cons_zero, List.set_cons_succ]
            refine wpAnyH_take (i := 31) (oi := ⟨some 74, _, _, _, _, _⟩) (v := ?_) rfl (by kernel_rfl) (by kernel_rfl) (by kernel_rfl) (fun _ _ _ h => h) (Or.inl ⟨by rfl, ?_⟩) (by assumption) ?_
            rotate_left
            · intro w hSw; (try dsimp only at hSw); go_simp <;> with_reducible rfl
            try simp only [Act.put, List.setIfInBounds_toArray, List.set_cons_zero, List.set_cons_succ]
            refine wpAnyH_take (i := 32) (oi := ⟨some 75, _, _, _, _, _⟩) (v := ?_) rfl (by kernel_rfl) (by kernel_rfl) (by kernel_rfl) (fun _ _ _ h => h) (Or.inl ⟨by rfl, ?_⟩) (by assumption) ?_
            rotate_left
            · intro w hSw; (try dsimp only at hSw); go_simp <;> with_reducible rfl
            try simp only [Act.put, List.setIfInBounds_toArray, List.set_cons_zero, List.set_cons_succ]
            refine wpAnyH_take (i := 33) (oi := ⟨some 76, _, _, _, _, _⟩) (v := ?_) rfl (by kernel_rfl) (by kernel_rfl) (by kernel_rfl) (fun _ _ _ h => h) (Or.inl ⟨by rfl, ?_⟩) (by assumption) ?_
            rotate_left
            · intro w hSw; (try dsimp only at hSw); go_simp <;> with_reducible rfl
            try simp only [Act.put, List.setIfInBounds_toArray, List.set_cons_zero, List.set_cons_succ]
            refine wpAnyH_take (i := 34) (oi := ⟨some 77, _, _, _, _, _⟩) (v := ?_) rfl (by kernel_rfl) (by kernel_rfl) (by kernel_rfl) (fun _ _ _ h => h) (Or.inl ⟨by rfl, ?_⟩) (by assumption) ?_
            rotate_left
            · intro w hSw; (try dsimp only at hSw); go_simp <;> with_reducible rfl
            try simp only [Act.put, List.setIfInBounds_toArray, List.set_cons_zero, List.set_cons_succ]
            refine wpAnyH_take (i := 35) (oi := ⟨some 78, _, _, _, _, _⟩) rfl (by kernel_rfl) (by kernel_rfl) (by kernel_rfl) (fun _ _ _ h => h) (Or.inr ⟨by rfl, rfl⟩) (by assumption) ?_
            try simp only [Act.put, List.setIfInBounds_toArray, List.set_cons_zero, List.set_cons_succ]
            refine wpAnyH_take (i := 36) (oi := ⟨some 79, _, _, _, _, _⟩) rfl (by kernel_rfl) (by kernel_rfl) (by kernel_rfl) (fun _ _ _ h => h) (Or.inr ⟨by rfl, rfl⟩) (by assumption) ?_
            try simp only [Act.put, List.setIfInBounds_toArray, List.set_cons_zero, List.set_cons_succ]
            refine wpAnyH_take (i := 37) (oi := ⟨some 80, _, _, _, _, _⟩) (v := ?_) rfl (by kernel_rfl) (by kernel_rfl) (by kernel_rfl) (fun _ _ _ h => h) (Or.inl ⟨by rfl, ?_⟩) (by assumption) ?_
            rotate_left
            · intro w hSw; (try dsimp only at hSw); go_simp <;> with_reducible rfl
            try simp only [Act.put, List.setIfInBounds_toArray, List.set_cons_zero, List.set_cons_succ]
            refine wpAnyH_take (i := 38) (oi := ⟨some 81, _, _, _, _, _⟩) (v := ?_) rfl (by kernel_rfl) (by kernel_rfl) (by kernel_rfl) (fun _ _ _ h => h) (Or.inl ⟨by rfl, ?_⟩) (by assumption) ?_
            rotate_left
            · intro w hSw; (try dsimp only at hSw); go_simp <;> with_reducible rfl
            try simp only [Act.put, List.setIfInBounds_toArray, List.set_cons_zero, List.set_cons_succ]
            refine wpAnyH_take (i := 39) (oi := ⟨some 82, _, _, _, _, _⟩) (v := ?_) rfl (by kernel_rfl) (by kernel_rfl) (by kernel_rfl) (fun _ _ _ h => h) (Or.inl ⟨by rfl, ?_⟩) (by assumption) ?_
            rotate_left
            · intro w hSw; (try dsimp only at hSw); go_simp <;> with_reducible rfl
            try simp only [Act.put, List.setIfInBounds_toArray, List.set_cons_zero, List.set_cons_succ]
            refine wpAnyH_take (i := 40) (oi := ⟨some 83, _, _, _, _, _⟩) (v := ?_) rfl (by kernel_rfl) (by kernel_rfl) (by kernel_rfl) (fun _ _ _ h => h) (Or.inl ⟨by rfl, ?_⟩) (by assumption) ?_
            rotate_left
            · intro w hSw; (try dsimp only at hSw); go_simp <;> with_reducible rfl
            try simp only [Act.put, List.setIfInBounds_toArray, List.set_cons_zero, List.set_cons_succ]
            refine wpAnyH_take (i := 41) (oi := ⟨some 84, _, _, _, _, _⟩) (v := ?_) rfl (by kernel_rfl) (by kernel_rfl) (by kernel_rfl) (fun _ _ _ h => h) (Or.inl ⟨by rfl, ?_⟩) (by assumption) ?_
            rotate_left
            · intro w hSw; (try dsimp only at hSw); go_simp <;> with_reducible rfl
            try simp only [Act.put, List.setIfInBounds_toArray, List.set_cons_zero, List.set_cons_succ]
            refine wpAnyH_take (i := 43) (oi := ⟨some 86, _, _, _, _, _⟩) (v := ?_) rfl (by kernel_rfl) (by kernel_rfl) (by kernel_rfl) (fun _ _ _ h => h) (Or.inl ⟨by rfl, ?_⟩) (by assumption) ?_
            rotate_left
            · intro w hSw; (try dsimp only at hSw); go_simp <;> with_reducible rfl
            try simp only [Act.put, List.setIfInBounds_toArray, List.set_cons_zero, List.set_cons_succ]
            refine wpAnyH_take (i := 44) (oi := ⟨some 87, _, _, _, _, _⟩) (v := ?_) rfl (by kernel_rfl) (by kernel_rfl) (by kernel_rfl) (fun _ _ _ h => h) (Or.inl ⟨by rfl, ?_⟩) (by assumption) ?_
            rotate_left
            · intro w hSw; (try dsimp only at hSw); go_simp <;> with_reducible rfl
            try simp only [Act.put, List.setIfInBounds_toArray, List.set_cons_zero, List.set_cons_succ]
            refine wpAnyH_take (i := 45) (oi := ⟨some 88, _, _, _, _, _⟩) (v := ?_) rfl (by kernel_rfl) (by kernel_rfl) (by kernel_rfl) (fun _ _ _ h => h) (Or.inl ⟨by rfl, ?_⟩) (by assumption) ?_
            rotate_left
            · intro w hSw; (try dsimp only at hSw); go_simp; exact sameIfs x y w
            try simp only [Act.put, List.setIfInBounds_toArray, List.set_cons_zero, List.set_cons_succ]
            refine wpAnyH_ready (rs := [42]) (by kernel_rfl) (by simp) ?_
            refine AllReadyH.cons rfl (fun K hK => ?_) AllReadyH.nil
            go_simp
            refine (cS.out _).mono ?_; rintro e w' ⟨rfl, hb9⟩
            try go_wp2_with fail
            refine hK.out _ _ (kS.out _ _ (by assumption) hb9) (fun hHeld => ?_)
            clear hK K
            try simp only [Act.put, List.setIfInBounds_toArray, List.set_cons_zero, List.set_cons_succ]
            refine wpAnyH_take (i := 46) (oi := ⟨some 89, _, _, _, _, _⟩) (v := ?_) rfl (by kernel_rfl) (by kernel_rfl) (by kernel_rfl) (fun _ _ _ h => h) (Or.inl ⟨by rfl, ?_⟩) (by assumption) ?_
            rotate_left
            · intro w hSw; (try dsimp only at hSw); go_simp <;> with_reducible rfl
            try simp only [Act.put, List.setIfInBounds_toArray, List.set_cons_zero, List.set_cons_succ]
            refine wpAnyH_take (i := 47) (oi := ⟨some 90, _, _, _, _, _⟩) (v := ?_) rfl (by kernel_rfl) (by kernel_rfl) (by kernel_rfl) (fun _ _ _ h => h) (Or.inl ⟨by rfl, ?_⟩) (by assumption) ?_
            rotate_left
            · intro w hSw; (try dsimp only at hSw); go_simp <;> with_reducible rfl
            try simp only [Act.put, List.setIfInBounds_toArray, List.set_cons_zero, List.set_cons_succ]
            refine wpAnyH_take (i := 48) (oi := ⟨some 91, _, _, _, _, _⟩) (v := ?_) rfl (by kernel_rfl) (by kernel_rfl) (by kernel_rfl) (fun _ _ _ h => h) (Or.inl ⟨by rfl, ?_⟩) (by assumption) ?_
            rotate_left
            · intro w hSw; (try dsimp only at hSw); go_simp <;> with_reducible rfl
            try simp only [Act.put, List.setIfInBounds_toArray, List.set_cons_zero, List.set_cons_succ]
            refine wpAnyH_ready (rs := [49]) (by kernel_rfl) (by simp) ?_
            refine AllReadyH.cons rfl (fun K hK => ?_) AllReadyH.nil
            go_simp
            refine (cW.out _ (fS.out _ (by assumption))).mono ?_; rintro e w' ⟨rfl, hb9⟩
            try go_wp2_with fail
            refine hK.out _ _ (kS.out _ _ (by assumption) hb9) (fun hHeld => ?_)
            clear hK K
            try simp only [Act.put, List.setIfInBounds_toArray, List.set_cons_zero, List.set_cons_succ]
            refine wpAnyH_take (i := 50) (oi := ⟨some 93, _, _, _, _, _⟩) (v := ?_) rfl (by kernel_rfl) (by kernel_rfl) (by kernel_rfl) (fun _ _ _ h => h) (Or.inl ⟨by rfl, ?_⟩) (by assumption) ?_
            rotate_left
            · intro w hSw; (try dsimp only at hSw); go_simp <;> with_reducible rfl
            try simp only [Act.put, List.setIfInBounds_toArray, List.set_cons_zero, List.set_cons_succ]
            refine wpAnyH_take (i := 51) (oi := ⟨some 6, _, _, _, _, _⟩) (v := ?_) rfl (by kernel_rfl) (by kernel_rfl) (by kernel_rfl) (fun _ _ _ h => h) (Or.inl ⟨by rfl, ?_⟩) (by assumption) ?_
            rotate_left
            · intro w hSw; (try dsimp only at hSw); go_simp <;> with_reducible rfl
            try simp only [Act.put, List.setIfInBounds_toArray, List.set_cons_zero, List.set_cons_succ]
            refine wpAnyH_done (by kernel_rfl) ?_ _
            go_wp2
            go_ret
            exact ⟨rfl, hn₀ ▸ fS.out _ (by assumption)⟩
          | some z =>
            obtain ⟨o, ho⟩ : ∃ o : OpB, op8 o = z := ⟨ofO z, ofO_op z⟩
            have hLv : (lineS s.data.toList = some (op8 o) ∧ true = true) ∨ (lineS s.data.toList = none ∧ o = zOp ∧ true = false) := .inl ⟨by rw [hL, ho], rfl⟩
            have cL := hid (Line_val s ((w.alloc (.cells #[.int .i64 x.k, .int .i64 x.r, .int .i64 x.o, .int .i64 x.n, .string x.s, .int .i64 x.w, .int .i64 x.h, .int .i64 x.t, .int .i64 x.c, .int .i64 x.i] 25)).alloc (.cells #[.int .i64 y.k, .int .i64 y.r, .int .i64 y.o, .int .i64 y.n, .string y.s, .int .i64 y.w, .int .i64 y.h, .int .i64 y.t, .int .i64 y.c, .int .i64 y.i] 25)) (by omega) (hT.below (hn₀ ▸ B2)) o 0 (.inl ⟨by rw [hL, ho], rfl⟩))
            have cRr := hid (fun W => rLine_val s W (by omega) o true hLv)
            have cTt := hid (fun (W : World) (h : Below n₀ w W) => Text_val x W hx (by omega) (hT.below (hn₀ ▸ h)) _ _ hTv)
            clear hLv hTv
            replace hTU := hid hTU
            replace ho := hid ho
            unfold opV opC at cL
            clear q4 p4
            replace hL := hid hL
            replace hX := hid hX
            go_enter Tryd.func3, Tryd.ntmps3
            go_wp2_with (fail)
            refine cL.out.mono ?_
            rintro e w1 ⟨rfl, b1⟩
            have x1 := (Kept.of_below b1 0).same _ _ x0 (.inl rfl)
            have yy1 := (Kept.of_below b1 0).same _ _ yy0 (.inl rfl)
            have B3 := B2.trans (b1.mono (by have := B2.size; omega))
            obtain ⟨n5, hn5⟩ : ∃ n, w1.heap.size = n := ⟨_, rfl⟩
            have o1 := World.alloc_heap_new w1 (.cells #[.int .i64 o.k, .int .i64 o.r, .int .i64 o.o, .int .i64 o.n, .string o.s, .int .i64 o.w, .int .i64 o.h, .int .i64 o.t, .int .i64 o.c, .int .i64 o.i] 25)
            rw [hn5] at o1
            have x1a := (Kept.alloc 0 w1 (.cells #[.int .i64 o.k, .int .i64 o.r, .int .i64 o.o, .int .i64 o.n, .string o.s, .int .i64 o.w, .int .i64 o.h, .int .i64 o.t, .int .i64 o.c, .int .i64 o.i] 25)).same _ _ x1 (.inl rfl)
            have yy1a := (Kept.alloc 0 w1 (.cells #[.int .i64 o.k, .int .i64 o.r, .int .i64 o.o, .int .i64 o.n, .string o.s, .int .i64 o.w, .int .i64 o.h, .int .i64 o.t, .int .i64 o.c, .int .i64 o.i] 25)).same _ _ yy1 (.inl rfl)
            have B3a := B3.alloc (by have := B3.size; omega) (.cells #[.int .i64 o.k, .int .i64 o.r, .int .i64 o.o, .int .i64 o.n, .string o.s, .int .i64 o.w, .int .i64 o.h, .int .i64 o.t, .int .i64 o.c, .int .i64 o.i] 25)
            have cR := hid (cRr.out (w1.alloc (.cells #[.int .i64 o.k, .int .i64 o.r, .int .i64 o.o, .int .i64 o.n, .string o.s, .int .i64 o.w, .int .i64 o.h, .int .i64 o.t, .int .i64 o.c, .int .i64 o.i] 25)))
            unfold gotC at cR
            clear cL b1 x1 yy1 B3
            go_wp2_with (fail)
            refine cR.out.mono ?_
            rintro e w2 ⟨rfl, b2⟩
            have x2 := (Kept.of_below b2 0).same _ _ x1a (.inl rfl)
            have yy2 := (Kept.of_below b2 0).same _ _ yy1a (.inl rfl)
            have o2 := (Kept.of_below b2 0).same _ _ o1 (.inl rfl)
            have B4' := B3a.trans (b2.mono (by have := B3a.size; omega))
            obtain ⟨n6, hn6⟩ : ∃ n, w2.heap.size = n := ⟨_, rfl⟩
            have g2 := World.alloc_heap_new w2 (.cells #[.int .i64 o.k, .int .i64 o.r, .int .i64 o.o, .int .i64 o.n, .string o.s, .int .i64 o.w, .int .i64 o.h, .int .i64 o.t, .int .i64 o.c, .int .i64 o.i, .bool true] 31)
            rw [hn6] at g2
            have x2a := (Kept.alloc 0 w2 (.cells #[.int .i64 o.k, .int .i64 o.r, .int .i64 o.o, .int .i64 o.n, .string o.s, .int .i64 o.w, .int .i64 o.h, .int .i64 o.t, .int .i64 o.c, .int .i64 o.i, .bool true] 31)).same _ _ x2 (.inl rfl)
            have yy2a := (Kept.alloc 0 w2 (.cells #[.int .i64 o.k, .int .i64 o.r, .int .i64 o.o, .int .i64 o.n, .string o.s, .int .i64 o.w, .int .i64 o.h, .int .i64 o.t, .int .i64 o.c, .int .i64 o.i, .bool true] 31)).same _ _ yy2 (.inl rfl)
            have o2a := (Kept.alloc 0 w2 (.cells #[.int .i64 o.k, .int .i64 o.r, .int .i64 o.o, .int .i64 o.n, .string o.s, .int .i64 o.w, .int .i64 o.h, .int .i64 o.t, .int .i64 o.c, .int .i64 o.i, .bool true] 31)).same _ _ o2 (.inl rfl)
            have B4a := B4'.alloc (by have := B4'.size; omega) (.cells #[.int .i64 o.k, .int .i64 o.r, .int .i64 o.o, .int .i64 o.n, .string o.s, .int .i64 o.w, .int .i64 o.h, .int .i64 o.t, .int .i64 o.c, .int .i64 o.i, .bool true] 31)
            have c0 : (w2.alloc (.cells #[.int .i64 o.k, .int .i64 o.r, .int .i64 o.o, .int .i64 o.n, .string o.s, .int .i64 o.w, .int .i64 o.h, .int .i64 o.t, .int .i64 o.c, .int .i64 o.i, .bool true] 31)).cell? ⟨n₀, 0, none⟩ = some (.int .i64 x.k) := cell_blk (i := 0) x2a rfl
            have c1 : (w2.alloc (.cells #[.int .i64 o.k, .int .i64 o.r, .int .i64 o.o, .int .i64 o.n, .string o.s, .int .i64 o.w, .int .i64 o.h, .int .i64 o.t, .int .i64 o.c, .int .i64 o.i, .bool true] 31)).cell? ⟨n₀, 1, none⟩ = some (.int .i64 x.r) := cell_blk (i := 1) x2a rfl
            have c2 : (w2.alloc (.cells #[.int .i64 o.k, .int .i64 o.r, .int .i64 o.o, .int .i64 o.n, .string o.s, .int .i64 o.w, .int .i64 o.h, .int .i64 o.t, .int .i64 o.c, .int .i64 o.i, .bool true] 31)).cell? ⟨n₀, 2, none⟩ = some (.int .i64 x.o) := cell_blk (i := 2) x2a rfl
            have c3 : (w2.alloc (.cells #[.int .i64 o.k, .int .i64 o.r, .int .i64 o.o, .int .i64 o.n, .string o.s, .int .i64 o.w, .int .i64 o.h, .int .i64 o.t, .int .i64 o.c, .int .i64 o.i, .bool true] 31)).cell? ⟨n₀, 3, none⟩ = some (.int .i64 x.n) := cell_blk (i := 3) x2a rfl
            have c4 : (w2.alloc (.cells #[.int .i64 o.k, .int .i64 o.r, .int .i64 o.o, .int .i64 o.n, .string o.s, .int .i64 o.w, .int .i64 o.h, .int .i64 o.t, .int .i64 o.c, .int .i64 o.i, .bool true] 31)).cell? ⟨n₀, 4, none⟩ = some (.string x.s) := cell_blk (i := 4) x2a rfl
            have c5 : (w2.alloc (.cells #[.int .i64 o.k, .int .i64 o.r, .int .i64 o.o, .int .i64 o.n, .string o.s, .int .i64 o.w, .int .i64 o.h, .int .i64 o.t, .int .i64 o.c, .int .i64 o.i, .bool true] 31)).cell? ⟨n₀, 5, none⟩ = some (.int .i64 x.w) := cell_blk (i := 5) x2a rfl
            have c6 : (w2.alloc (.cells #[.int .i64 o.k, .int .i64 o.r, .int .i64 o.o, .int .i64 o.n, .string o.s, .int .i64 o.w, .int .i64 o.h, .int .i64 o.t, .int .i64 o.c, .int .i64 o.i, .bool true] 31)).cell? ⟨n₀, 6, none⟩ = some (.int .i64 x.h) := cell_blk (i := 6) x2a rfl
            have c7 : (w2.alloc (.cells #[.int .i64 o.k, .int .i64 o.r, .int .i64 o.o, .int .i64 o.n, .string o.s, .int .i64 o.w, .int .i64 o.h, .int .i64 o.t, .int .i64 o.c, .int .i64 o.i, .bool true] 31)).cell? ⟨n₀, 7, none⟩ = some (.int .i64 x.t) := cell_blk (i := 7) x2a rfl
            have c8 : (w2.alloc (.cells #[.int .i64 o.k, .int .i64 o.r, .int .i64 o.o, .int .i64 o.n, .string o.s, .int .i64 o.w, .int .i64 o.h, .int .i64 o.t, .int .i64 o.c, .int .i64 o.i, .bool true] 31)).cell? ⟨n₀, 8, none⟩ = some (.int .i64 x.c) := cell_blk (i := 8) x2a rfl
            have c9 : (w2.alloc (.cells #[.int .i64 o.k, .int .i64 o.r, .int .i64 o.o, .int .i64 o.n, .string o.s, .int .i64 o.w, .int .i64 o.h, .int .i64 o.t, .int .i64 o.c, .int .i64 o.i, .bool true] 31)).cell? ⟨n₀, 9, none⟩ = some (.int .i64 x.i) := cell_blk (i := 9) x2a rfl
            have cT := hid (cTt.out (w2.alloc (.cells #[.int .i64 o.k, .int .i64 o.r, .int .i64 o.o, .int .i64 o.n, .string o.s, .int .i64 o.w, .int .i64 o.h, .int .i64 o.t, .int .i64 o.c, .int .i64 o.i, .bool true] 31)) B4a)
            unfold opV opC at cT
            clear cR b2 x1a yy1a o1 B3a x2 yy2 o2 B4'
            go_wp2_with (fail)
            refine cT.out.mono ?_
            rintro e w3 ⟨rfl, b3⟩
            have x3 := (Kept.of_below b3 0).same _ _ x2a (.inl rfl)
            have yy3 := (Kept.of_below b3 0).same _ _ yy2a (.inl rfl)
            have o3 := (Kept.of_below b3 0).same _ _ o2a (.inl rfl)
            have g3 := (Kept.of_below b3 0).same _ _ g2 (.inl rfl)
            have B5 := B4a.trans (b3.mono (by have := B4a.size; omega))
            have d0 : w3.cell? ⟨n₀, 0, none⟩ = some (.int .i64 x.k) := cell_blk (i := 0) x3 rfl
            have d1 : w3.cell? ⟨n₀, 1, none⟩ = some (.int .i64 x.r) := cell_blk (i := 1) x3 rfl
            have d2 : w3.cell? ⟨n₀, 2, none⟩ = some (.int .i64 x.o) := cell_blk (i := 2) x3 rfl
            have d3 : w3.cell? ⟨n₀, 3, none⟩ = some (.int .i64 x.n) := cell_blk (i := 3) x3 rfl
            have d4 : w3.cell? ⟨n₀, 4, none⟩ = some (.string x.s) := cell_blk (i := 4) x3 rfl
            have d5 : w3.cell? ⟨n₀, 5, none⟩ = some (.int .i64 x.w) := cell_blk (i := 5) x3 rfl
            have d6 : w3.cell? ⟨n₀, 6, none⟩ = some (.int .i64 x.h) := cell_blk (i := 6) x3 rfl
            have d7 : w3.cell? ⟨n₀, 7, none⟩ = some (.int .i64 x.t) := cell_blk (i := 7) x3 rfl
            have d8 : w3.cell? ⟨n₀, 8, none⟩ = some (.int .i64 x.c) := cell_blk (i := 8) x3 rfl
            have d9 : w3.cell? ⟨n₀, 9, none⟩ = some (.int .i64 x.i) := cell_blk (i := 9) x3 rfl
            have cU := hid (rText_any x w3 hx (by omega))
            rw [hTU.out] at cU
            unfold opV opC at cU
            clear cT b3 x2a yy2a o2a g2 B4a c0 c1 c2 c3 c4 c5 c6 c7 c8 c9
            go_wp2_with (fail)
            refine cU.out.mono ?_
            rintro e w4 ⟨rfl, b4⟩
            have x4 := (Kept.of_below b4 0).same _ _ x3 (.inl rfl)
            have yy4 := (Kept.of_below b4 0).same _ _ yy3 (.inl rfl)
            have o4 := (Kept.of_below b4 0).same _ _ o3 (.inl rfl)
            have g4 := (Kept.of_below b4 0).same _ _ g3 (.inl rfl)
            have B4 := B5.trans (b4.mono (by have := B5.size; omega))
            have cS := hid (fun V => Same_any x y V)
            unfold opV opC at cS
            have cW := hid (fun (V : World) (h : Below n₀ w V) => wakes_any V (hT.below (hn₀ ▸ h)))
            clear cU b4 x3 yy3 o3 g3 B5 d0 d1 d2 d3 d4 d5 d6 d7 d8 d9 hx hy hz0
            go_upto_region 7 with (fail)
            have kS : Hid (∀ W W' : World, (W.cell? ⟨n₀, 0, none⟩ = some (.int .i64 x.k) ∧ W.cell? ⟨n₀, 1, none⟩ = some (.int .i64 x.r) ∧ W.cell? ⟨n₀, 2, none⟩ = some (.int .i64 x.o) ∧ W.cell? ⟨n₀, 3, none⟩ = some (.int .i64 x.n) ∧ W.cell? ⟨n₀, 4, none⟩ = some (.string x.s) ∧ W.cell? ⟨n₀, 5, none⟩ = some (.int .i64 x.w) ∧ W.cell? ⟨n₀, 6, none⟩ = some (.int .i64 x.h) ∧ W.cell? ⟨n₀, 7, none⟩ = some (.int .i64 x.t) ∧ W.cell? ⟨n₀, 8, none⟩ = some (.int .i64 x.c) ∧ W.cell? ⟨n₀, 9, none⟩ = some (.int .i64 x.i) ∧ W.cell? ⟨n₀ + 1, 0, none⟩ = some (.int .i64 y.k) ∧ W.cell? ⟨n₀ + 1, 1, none⟩ = some (.int .i64 y.r) ∧ W.cell? ⟨n₀ + 1, 2, none⟩ = some (.int .i64 y.o) ∧ W.cell? ⟨n₀ + 1, 3, none⟩ = some (.int .i64 y.n) ∧ W.cell? ⟨n₀ + 1, 4, none⟩ = some (.string y.s) ∧ W.cell? ⟨n₀ + 1, 5, none⟩ = some (.int .i64 y.w) ∧ W.cell? ⟨n₀ + 1, 6, none⟩ = some (.int .i64 y.h) ∧ W.cell? ⟨n₀ + 1, 7, none⟩ = some (.int .i64 y.t) ∧ W.cell? ⟨n₀ + 1, 8, none⟩ = some (.int .i64 y.c) ∧ W.cell? ⟨n₀ + 1, 9, none⟩ = some (.int .i64 y.i) ∧ W.cell? ⟨n5, 0, none⟩ = some (.int .i64 o.k) ∧ W.cell? ⟨n5, 1, none⟩ = some (.int .i64 o.r) ∧ W.cell? ⟨n5, 2, none⟩ = some (.int .i64 o.o) ∧ W.cell? ⟨n5, 3, none⟩ = some (.int .i64 o.n) ∧ W.cell? ⟨n5, 4, none⟩ = some (.string o.s) ∧ W.cell? ⟨n5, 5, none⟩ = some (.int .i64 o.w) ∧ W.cell? ⟨n5, 6, none⟩ = some (.int .i64 o.h) ∧ W.cell? ⟨n5, 7, none⟩ = some (.int .i64 o.t) ∧ W.cell? ⟨n5, 8, none⟩ = some (.int .i64 o.c) ∧ W.cell? ⟨n5, 9, none⟩ = some (.int .i64 o.i) ∧ W.cell? ⟨n6, 0, none⟩ = some (.int .i64 o.k) ∧ W.cell? ⟨n6, 1, none⟩ = some (.int .i64 o.r) ∧ W.cell? ⟨n6, 2, none⟩ = some (.int .i64 o.o) ∧ W.cell? ⟨n6, 3, none⟩ = some (.int .i64 o.n) ∧ W.cell? ⟨n6, 4, none⟩ = some (.string o.s) ∧ W.cell? ⟨n6, 5, none⟩ = some (.int .i64 o.w) ∧ W.cell? ⟨n6, 6, none⟩ = some (.int .i64 o.h) ∧ W.cell? ⟨n6, 7, none⟩ = some (.int .i64 o.t) ∧ W.cell? ⟨n6, 8, none⟩ = some (.int .i64 o.c) ∧ W.cell? ⟨n6, 9, none⟩ = some (.int .i64 o.i) ∧ W.cell? ⟨n6, 10, none⟩ = some (.bool true) ∧ W.heap[n₀]? = some (.cells #[.int .i64 x.k, .int .i64 x.r, .int .i64 x.o, .int .i64 x.n, .string x.s, .int .i64 x.w, .int .i64 x.h, .int .i64 x.t, .int .i64 x.c, .int .i64 x.i] 25 (0, 0)) ∧ W.heap[n₀ + 1]? = some (.cells #[.int .i64 y.k, .int .i64 y.r, .int .i64 y.o, .int .i64 y.n, .string y.s, .int .i64 y.w, .int .i64 y.h, .int .i64 y.t, .int .i64 y.c, .int .i64 y.i] 25 (0, 0)) ∧ W.heap[n5]? = some (.cells #[.int .i64 o.k, .int .i64 o.r, .int .i64 o.o, .int .i64 o.n, .string o.s, .int .i64 o.w, .int .i64 o.h, .int .i64 o.t, .int .i64 o.c, .int .i64 o.i] 25 (0, 0)) ∧ W.heap[n6]? = some (.cells #[.int .i64 o.k, .int .i64 o.r, .int .i64 o.o, .int .i64 o.n, .string o.s, .int .i64 o.w, .int .i64 o.h, .int .i64 o.t, .int .i64 o.c, .int .i64 o.i, .bool true] 31 (0, 0)) ∧ Below n₀ w W) → Below W.heap.size W W' → (W'.cell? ⟨n₀, 0, none⟩ = some (.int .i64 x.k) ∧ W'.cell? ⟨n₀, 1, none⟩ = some (.int .i64 x.r) ∧ W'.cell? ⟨n₀, 2, none⟩ = some (.int .i64 x.o) ∧ W'.cell? ⟨n₀, 3, none⟩ = some (.int .i64 x.n) ∧ W'.cell? ⟨n₀, 4, none⟩ = some (.string x.s) ∧ W'.cell? ⟨n₀, 5, none⟩ = some (.int .i64 x.w) ∧ W'.cell? ⟨n₀, 6, none⟩ = some (.int .i64 x.h) ∧ W'.cell? ⟨n₀, 7, none⟩ = some (.int .i64 x.t) ∧ W'.cell? ⟨n₀, 8, none⟩ = some (.int .i64 x.c) ∧ W'.cell? ⟨n₀, 9, none⟩ = some (.int .i64 x.i) ∧ W'.cell? ⟨n₀ + 1, 0, none⟩ = some (.int .i64 y.k) ∧ W'.cell? ⟨n₀ + 1, 1, none⟩ = some (.int .i64 y.r) ∧ W'.cell? ⟨n₀ + 1, 2, none⟩ = some (.int .i64 y.o) ∧ W'.cell? ⟨n₀ + 1, 3, none⟩ = some (.int .i64 y.n) ∧ W'.cell? ⟨n₀ + 1, 4, none⟩ = some (.string y.s) ∧ W'.cell? ⟨n₀ + 1, 5, none⟩ = some (.int .i64 y.w) ∧ W'.cell? ⟨n₀ + 1, 6, none⟩ = some (.int .i64 y.h) ∧ W'.cell? ⟨n₀ + 1, 7, none⟩ = some (.int .i64 y.t) ∧ W'.cell? ⟨n₀ + 1, 8, none⟩ = some (.int .i64 y.c) ∧ W'.cell? ⟨n₀ + 1, 9, none⟩ = some (.int .i64 y.i) ∧ W'.cell? ⟨n5, 0, none⟩ = some (.int .i64 o.k) ∧ W'.cell? ⟨n5, 1, none⟩ = some (.int .i64 o.r) ∧ W'.cell? ⟨n5, 2, none⟩ = some (.int .i64 o.o) ∧ W'.cell? ⟨n5, 3, none⟩ = some (.int .i64 o.n) ∧ W'.cell? ⟨n5, 4, none⟩ = some (.string o.s) ∧ W'.cell? ⟨n5, 5, none⟩ = some (.int .i64 o.w) ∧ W'.cell? ⟨n5, 6, none⟩ = some (.int .i64 o.h) ∧ W'.cell? ⟨n5, 7, none⟩ = some (.int .i64 o.t) ∧ W'.cell? ⟨n5, 8, none⟩ = some (.int .i64 o.c) ∧ W'.cell? ⟨n5, 9, none⟩ = some (.int .i64 o.i) ∧ W'.cell? ⟨n6, 0, none⟩ = some (.int .i64 o.k) ∧ W'.cell? ⟨n6, 1, none⟩ = some (.int .i64 o.r) ∧ W'.cell? ⟨n6, 2, none⟩ = some (.int .i64 o.o) ∧ W'.cell? ⟨n6, 3, none⟩ = some (.int .i64 o.n) ∧ W'.cell? ⟨n6, 4, none⟩ = some (.string o.s) ∧ W'.cell? ⟨n6, 5, none⟩ = some (.int .i64 o.w) ∧ W'.cell? ⟨n6, 6, none⟩ = some (.int .i64 o.h) ∧ W'.cell? ⟨n6, 7, none⟩ = some (.int .i64 o.t) ∧ W'.cell? ⟨n6, 8, none⟩ = some (.int .i64 o.c) ∧ W'.cell? ⟨n6, 9, none⟩ = some (.int .i64 o.i) ∧ W'.cell? ⟨n6, 10, none⟩ = some (.bool true) ∧ W'.heap[n₀]? = some (.cells #[.int .i64 x.k, .int .i64 x.r, .int .i64 x.o, .int .i64 x.n, .string x.s, .int .i64 x.w, .int .i64 x.h, .int .i64 x.t, .int .i64 x.c, .int .i64 x.i] 25 (0, 0)) ∧ W'.heap[n₀ + 1]? = some (.cells #[.int .i64 y.k, .int .i64 y.r, .int .i64 y.o, .int .i64 y.n, .string y.s, .int .i64 y.w, .int .i64 y.h, .int .i64 y.t, .int .i64 y.c, .int .i64 y.i] 25 (0, 0)) ∧ W'.heap[n5]? = some (.cells #[.int .i64 o.k, .int .i64 o.r, .int .i64 o.o, .int .i64 o.n, .string o.s, .int .i64 o.w, .int .i64 o.h, .int .i64 o.t, .int .i64 o.c, .int .i64 o.i] 25 (0, 0)) ∧ W'.heap[n6]? = some (.cells #[.int .i64 o.k, .int .i64 o.r, .int .i64 o.o, .int .i64 o.n, .string o.s, .int .i64 o.w, .int .i64 o.h, .int .i64 o.t, .int .i64 o.c, .int .i64 o.i, .bool true] 31 (0, 0)) ∧ Below n₀ w W')) := hid (by rintro W W' ⟨r0, r1, r2, r3, r4, r5, r6, r7, r8, r9, r10, r11, r12, r13, r14, r15, r16, r17, r18, r19, r20, r21, r22, r23, r24, r25, r26, r27, r28, r29, r30, r31, r32, r33, r34, r35, r36, r37, r38, r39, r40, p1, p2, p3, p4, pB⟩ hb9; have kk9 := Kept.of_below hb9 0; exact ⟨kk9.cell r0, kk9.cell r1, kk9.cell r2, kk9.cell r3, kk9.cell r4, kk9.cell r5, kk9.cell r6, kk9.cell r7, kk9.cell r8, kk9.cell r9, kk9.cell r10, kk9.cell r11, kk9.cell r12, kk9.cell r13, kk9.cell r14, kk9.cell r15, kk9.cell r16, kk9.cell r17, kk9.cell r18, kk9.cell r19, kk9.cell r20, kk9.cell r21, kk9.cell r22, kk9.cell r23, kk9.cell r24, kk9.cell r25, kk9.cell r26, kk9.cell r27, kk9.cell r28, kk9.cell r29, kk9.cell r30, kk9.cell r31, kk9.cell r32, kk9.cell r33, kk9.cell r34, kk9.cell r35, kk9.cell r36, kk9.cell r37, kk9.cell r38, kk9.cell r39, kk9.cell r40, kk9.same _ _ p1 (.inl rfl), kk9.same _ _ p2 (.inl rfl), kk9.same _ _ p3 (.inl rfl), kk9.same _ _ p4 (.inl rfl), pB.trans (hb9.mono (by have := pB.size; omega))⟩)
            have fS : Hid (∀ W : World, (W.cell? ⟨n₀, 0, none⟩ = some (.int .i64 x.k) ∧ W.cell? ⟨n₀, 1, none⟩ = some (.int .i64 x.r) ∧ W.cell? ⟨n₀, 2, none⟩ = some (.int .i64 x.o) ∧ W.cell? ⟨n₀, 3, none⟩ = some (.int .i64 x.n) ∧ W.cell? ⟨n₀, 4, none⟩ = some (.string x.s) ∧ W.cell? ⟨n₀, 5, none⟩ = some (.int .i64 x.w) ∧ W.cell? ⟨n₀, 6, none⟩ = some (.int .i64 x.h) ∧ W.cell? ⟨n₀, 7, none⟩ = some (.int .i64 x.t) ∧ W.cell? ⟨n₀, 8, none⟩ = some (.int .i64 x.c) ∧ W.cell? ⟨n₀, 9, none⟩ = some (.int .i64 x.i) ∧ W.cell? ⟨n₀ + 1, 0, none⟩ = some (.int .i64 y.k) ∧ W.cell? ⟨n₀ + 1, 1, none⟩ = some (.int .i64 y.r) ∧ W.cell? ⟨n₀ + 1, 2, none⟩ = some (.int .i64 y.o) ∧ W.cell? ⟨n₀ + 1, 3, none⟩ = some (.int .i64 y.n) ∧ W.cell? ⟨n₀ + 1, 4, none⟩ = some (.string y.s) ∧ W.cell? ⟨n₀ + 1, 5, none⟩ = some (.int .i64 y.w) ∧ W.cell? ⟨n₀ + 1, 6, none⟩ = some (.int .i64 y.h) ∧ W.cell? ⟨n₀ + 1, 7, none⟩ = some (.int .i64 y.t) ∧ W.cell? ⟨n₀ + 1, 8, none⟩ = some (.int .i64 y.c) ∧ W.cell? ⟨n₀ + 1, 9, none⟩ = some (.int .i64 y.i) ∧ W.cell? ⟨n5, 0, none⟩ = some (.int .i64 o.k) ∧ W.cell? ⟨n5, 1, none⟩ = some (.int .i64 o.r) ∧ W.cell? ⟨n5, 2, none⟩ = some (.int .i64 o.o) ∧ W.cell? ⟨n5, 3, none⟩ = some (.int .i64 o.n) ∧ W.cell? ⟨n5, 4, none⟩ = some (.string o.s) ∧ W.cell? ⟨n5, 5, none⟩ = some (.int .i64 o.w) ∧ W.cell? ⟨n5, 6, none⟩ = some (.int .i64 o.h) ∧ W.cell? ⟨n5, 7, none⟩ = some (.int .i64 o.t) ∧ W.cell? ⟨n5, 8, none⟩ = some (.int .i64 o.c) ∧ W.cell? ⟨n5, 9, none⟩ = some (.int .i64 o.i) ∧ W.cell? ⟨n6, 0, none⟩ = some (.int .i64 o.k) ∧ W.cell? ⟨n6, 1, none⟩ = some (.int .i64 o.r) ∧ W.cell? ⟨n6, 2, none⟩ = some (.int .i64 o.o) ∧ W.cell? ⟨n6, 3, none⟩ = some (.int .i64 o.n) ∧ W.cell? ⟨n6, 4, none⟩ = some (.string o.s) ∧ W.cell? ⟨n6, 5, none⟩ = some (.int .i64 o.w) ∧ W.cell? ⟨n6, 6, none⟩ = some (.int .i64 o.h) ∧ W.cell? ⟨n6, 7, none⟩ = some (.int .i64 o.t) ∧ W.cell? ⟨n6, 8, none⟩ = some (.int .i64 o.c) ∧ W.cell? ⟨n6, 9, none⟩ = some (.int .i64 o.i) ∧ W.cell? ⟨n6, 10, none⟩ = some (.bool true) ∧ W.heap[n₀]? = some (.cells #[.int .i64 x.k, .int .i64 x.r, .int .i64 x.o, .int .i64 x.n, .string x.s, .int .i64 x.w, .int .i64 x.h, .int .i64 x.t, .int .i64 x.c, .int .i64 x.i] 25 (0, 0)) ∧ W.heap[n₀ + 1]? = some (.cells #[.int .i64 y.k, .int .i64 y.r, .int .i64 y.o, .int .i64 y.n, .string y.s, .int .i64 y.w, .int .i64 y.h, .int .i64 y.t, .int .i64 y.c, .int .i64 y.i] 25 (0, 0)) ∧ W.heap[n5]? = some (.cells #[.int .i64 o.k, .int .i64 o.r, .int .i64 o.o, .int .i64 o.n, .string o.s, .int .i64 o.w, .int .i64 o.h, .int .i64 o.t, .int .i64 o.c, .int .i64 o.i] 25 (0, 0)) ∧ W.heap[n6]? = some (.cells #[.int .i64 o.k, .int .i64 o.r, .int .i64 o.o, .int .i64 o.n, .string o.s, .int .i64 o.w, .int .i64 o.h, .int .i64 o.t, .int .i64 o.c, .int .i64 o.i, .bool true] 31 (0, 0)) ∧ Below n₀ w W) → Below n₀ w W) := hid (by rintro W ⟨r0, r1, r2, r3, r4, r5, r6, r7, r8, r9, r10, r11, r12, r13, r14, r15, r16, r17, r18, r19, r20, r21, r22, r23, r24, r25, r26, r27, r28, r29, r30, r31, r32, r33, r34, r35, r36, r37, r38, r39, r40, p1, p2, p3, p4, pB⟩; exact pB)
            have st : Hid (w4.drew.cell? ⟨n₀, 0, none⟩ = some (.int .i64 x.k) ∧ w4.drew.cell? ⟨n₀, 1, none⟩ = some (.int .i64 x.r) ∧ w4.drew.cell? ⟨n₀, 2, none⟩ = some (.int .i64 x.o) ∧ w4.drew.cell? ⟨n₀, 3, none⟩ = some (.int .i64 x.n) ∧ w4.drew.cell? ⟨n₀, 4, none⟩ = some (.string x.s) ∧ w4.drew.cell? ⟨n₀, 5, none⟩ = some (.int .i64 x.w) ∧ w4.drew.cell? ⟨n₀, 6, none⟩ = some (.int .i64 x.h) ∧ w4.drew.cell? ⟨n₀, 7, none⟩ = some (.int .i64 x.t) ∧ w4.drew.cell? ⟨n₀, 8, none⟩ = some (.int .i64 x.c) ∧ w4.drew.cell? ⟨n₀, 9, none⟩ = some (.int .i64 x.i) ∧ w4.drew.cell? ⟨n₀ + 1, 0, none⟩ = some (.int .i64 y.k) ∧ w4.drew.cell? ⟨n₀ + 1, 1, none⟩ = some (.int .i64 y.r) ∧ w4.drew.cell? ⟨n₀ + 1, 2, none⟩ = some (.int .i64 y.o) ∧ w4.drew.cell? ⟨n₀ + 1, 3, none⟩ = some (.int .i64 y.n) ∧ w4.drew.cell? ⟨n₀ + 1, 4, none⟩ = some (.string y.s) ∧ w4.drew.cell? ⟨n₀ + 1, 5, none⟩ = some (.int .i64 y.w) ∧ w4.drew.cell? ⟨n₀ + 1, 6, none⟩ = some (.int .i64 y.h) ∧ w4.drew.cell? ⟨n₀ + 1, 7, none⟩ = some (.int .i64 y.t) ∧ w4.drew.cell? ⟨n₀ + 1, 8, none⟩ = some (.int .i64 y.c) ∧ w4.drew.cell? ⟨n₀ + 1, 9, none⟩ = some (.int .i64 y.i) ∧ w4.drew.cell? ⟨n5, 0, none⟩ = some (.int .i64 o.k) ∧ w4.drew.cell? ⟨n5, 1, none⟩ = some (.int .i64 o.r) ∧ w4.drew.cell? ⟨n5, 2, none⟩ = some (.int .i64 o.o) ∧ w4.drew.cell? ⟨n5, 3, none⟩ = some (.int .i64 o.n) ∧ w4.drew.cell? ⟨n5, 4, none⟩ = some (.string o.s) ∧ w4.drew.cell? ⟨n5, 5, none⟩ = some (.int .i64 o.w) ∧ w4.drew.cell? ⟨n5, 6, none⟩ = some (.int .i64 o.h) ∧ w4.drew.cell? ⟨n5, 7, none⟩ = some (.int .i64 o.t) ∧ w4.drew.cell? ⟨n5, 8, none⟩ = some (.int .i64 o.c) ∧ w4.drew.cell? ⟨n5, 9, none⟩ = some (.int .i64 o.i) ∧ w4.drew.cell? ⟨n6, 0, none⟩ = some (.int .i64 o.k) ∧ w4.drew.cell? ⟨n6, 1, none⟩ = some (.int .i64 o.r) ∧ w4.drew.cell? ⟨n6, 2, none⟩ = some (.int .i64 o.o) ∧ w4.drew.cell? ⟨n6, 3, none⟩ = some (.int .i64 o.n) ∧ w4.drew.cell? ⟨n6, 4, none⟩ = some (.string o.s) ∧ w4.drew.cell? ⟨n6, 5, none⟩ = some (.int .i64 o.w) ∧ w4.drew.cell? ⟨n6, 6, none⟩ = some (.int .i64 o.h) ∧ w4.drew.cell? ⟨n6, 7, none⟩ = some (.int .i64 o.t) ∧ w4.drew.cell? ⟨n6, 8, none⟩ = some (.int .i64 o.c) ∧ w4.drew.cell? ⟨n6, 9, none⟩ = some (.int .i64 o.i) ∧ w4.drew.cell? ⟨n6, 10, none⟩ = some (.bool true) ∧ w4.drew.heap[n₀]? = some (.cells #[.int .i64 x.k, .int .i64 x.r, .int .i64 x.o, .int .i64 x.n, .string x.s, .int .i64 x.w, .int .i64 x.h, .int .i64 x.t, .int .i64 x.c, .int .i64 x.i] 25 (0, 0)) ∧ w4.drew.heap[n₀ + 1]? = some (.cells #[.int .i64 y.k, .int .i64 y.r, .int .i64 y.o, .int .i64 y.n, .string y.s, .int .i64 y.w, .int .i64 y.h, .int .i64 y.t, .int .i64 y.c, .int .i64 y.i] 25 (0, 0)) ∧ w4.drew.heap[n5]? = some (.cells #[.int .i64 o.k, .int .i64 o.r, .int .i64 o.o, .int .i64 o.n, .string o.s, .int .i64 o.w, .int .i64 o.h, .int .i64 o.t, .int .i64 o.c, .int .i64 o.i] 25 (0, 0)) ∧ w4.drew.heap[n6]? = some (.cells #[.int .i64 o.k, .int .i64 o.r, .int .i64 o.o, .int .i64 o.n, .string o.s, .int .i64 o.w, .int .i64 o.h, .int .i64 o.t, .int .i64 o.c, .int .i64 o.i, .bool true] 31 (0, 0)) ∧ Below n₀ w w4.drew) := hid ⟨cell_blk (i := 0) (show w4.drew.heap[n₀]? = _ from x4) rfl, cell_blk (i := 1) (show w4.drew.heap[n₀]? = _ from x4) rfl, cell_blk (i := 2) (show w4.drew.heap[n₀]? = _ from x4) rfl, cell_blk (i := 3) (show w4.drew.heap[n₀]? = _ from x4) rfl, cell_blk (i := 4) (show w4.drew.heap[n₀]? = _ from x4) rfl, cell_blk (i := 5) (show w4.drew.heap[n₀]? = _ from x4) rfl, cell_blk (i := 6) (show w4.drew.heap[n₀]? = _ from x4) rfl, cell_blk (i := 7) (show w4.drew.heap[n₀]? = _ from x4) rfl, cell_blk (i := 8) (show w4.drew.heap[n₀]? = _ from x4) rfl, cell_blk (i := 9) (show w4.drew.heap[n₀]? = _ from x4) rfl, cell_blk (i := 0) (show w4.drew.heap[n₀ + 1]? = _ from yy4) rfl, cell_blk (i := 1) (show w4.drew.heap[n₀ + 1]? = _ from yy4) rfl, cell_blk (i := 2) (show w4.drew.heap[n₀ + 1]? = _ from yy4) rfl, cell_blk (i := 3) (show w4.drew.heap[n₀ + 1]? = _ from yy4) rfl, cell_blk (i := 4) (show w4.drew.heap[n₀ + 1]? = _ from yy4) rfl, cell_blk (i := 5) (show w4.drew.heap[n₀ + 1]? = _ from yy4) rfl, cell_blk (i := 6) (show w4.drew.heap[n₀ + 1]? = _ from yy4) rfl, cell_blk (i := 7) (show w4.drew.heap[n₀ + 1]? = _ from yy4) rfl, cell_blk (i := 8) (show w4.drew.heap[n₀ + 1]? = _ from yy4) rfl, cell_blk (i := 9) (show w4.drew.heap[n₀ + 1]? = _ from yy4) rfl, cell_blk (i := 0) (show w4.drew.heap[n5]? = _ from o4) rfl, cell_blk (i := 1) (show w4.drew.heap[n5]? = _ from o4) rfl, cell_blk (i := 2) (show w4.drew.heap[n5]? = _ from o4) rfl, cell_blk (i := 3) (show w4.drew.heap[n5]? = _ from o4) rfl, cell_blk (i := 4) (show w4.drew.heap[n5]? = _ from o4) rfl, cell_blk (i := 5) (show w4.drew.heap[n5]? = _ from o4) rfl, cell_blk (i := 6) (show w4.drew.heap[n5]? = _ from o4) rfl, cell_blk (i := 7) (show w4.drew.heap[n5]? = _ from o4) rfl, cell_blk (i := 8) (show w4.drew.heap[n5]? = _ from o4) rfl, cell_blk (i := 9) (show w4.drew.heap[n5]? = _ from o4) rfl, cell_blk (i := 0) (show w4.drew.heap[n6]? = _ from g4) rfl, cell_blk (i := 1) (show w4.drew.heap[n6]? = _ from g4) rfl, cell_blk (i := 2) (show w4.drew.heap[n6]? = _ from g4) rfl, cell_blk (i := 3) (show w4.drew.heap[n6]? = _ from g4) rfl, cell_blk (i := 4) (show w4.drew.heap[n6]? = _ from g4) rfl, cell_blk (i := 5) (show w4.drew.heap[n6]? = _ from g4) rfl, cell_blk (i := 6) (show w4.drew.heap[n6]? = _ from g4) rfl, cell_blk (i := 7) (show w4.drew.heap[n6]? = _ from g4) rfl, cell_blk (i := 8) (show w4.drew.heap[n6]? = _ from g4) rfl, cell_blk (i := 9) (show w4.drew.heap[n6]? = _ from g4) rfl, cell_blk (i := 10) (show w4.drew.heap[n6]? = _ from g4) rfl, x4, yy4, o4, g4, B4.drewN 1⟩
            clear x4 yy4 o4 g4 B4
            refine wp_region_held_drew (S := (fun W => W.cell? ⟨n₀, 0, none⟩ = some (.int .i64 x.k) ∧ W.cell? ⟨n₀, 1, none⟩ = some (.int .i64 x.r) ∧ W.cell? ⟨n₀, 2, none⟩ = some (.int .i64 x.o) ∧ W.cell? ⟨n₀, 3, none⟩ = some (.int .i64 x.n) ∧ W.cell? ⟨n₀, 4, none⟩ = some (.string x.s) ∧ W.cell? ⟨n₀, 5, none⟩ = some (.int .i64 x.w) ∧ W.cell? ⟨n₀, 6, none⟩ = some (.int .i64 x.h) ∧ W.cell? ⟨n₀, 7, none⟩ = some (.int .i64 x.t) ∧ W.cell? ⟨n₀, 8, none⟩ = some (.int .i64 x.c) ∧ W.cell? ⟨n₀, 9, none⟩ = some (.int .i64 x.i) ∧ W.cell? ⟨n₀ + 1, 0, none⟩ = some (.int .i64 y.k) ∧ W.cell? ⟨n₀ + 1, 1, none⟩ = some (.int .i64 y.r) ∧ W.cell? ⟨n₀ + 1, 2, none⟩ = some (.int .i64 y.o) ∧ W.cell? ⟨n₀ + 1, 3, none⟩ = some (.int .i64 y.n) ∧ W.cell? ⟨n₀ + 1, 4, none⟩ = some (.string y.s) ∧ W.cell? ⟨n₀ + 1, 5, none⟩ = some (.int .i64 y.w) ∧ W.cell? ⟨n₀ + 1, 6, none⟩ = some (.int .i64 y.h) ∧ W.cell? ⟨n₀ + 1, 7, none⟩ = some (.int .i64 y.t) ∧ W.cell? ⟨n₀ + 1, 8, none⟩ = some (.int .i64 y.c) ∧ W.cell? ⟨n₀ + 1, 9, none⟩ = some (.int .i64 y.i) ∧ W.cell? ⟨n5, 0, none⟩ = some (.int .i64 o.k) ∧ W.cell? ⟨n5, 1, none⟩ = some (.int .i64 o.r) ∧ W.cell? ⟨n5, 2, none⟩ = some (.int .i64 o.o) ∧ W.cell? ⟨n5, 3, none⟩ = some (.int .i64 o.n) ∧ W.cell? ⟨n5, 4, none⟩ = some (.string o.s) ∧ W.cell? ⟨n5, 5, none⟩ = some (.int .i64 o.w) ∧ W.cell? ⟨n5, 6, none⟩ = some (.int .i64 o.h) ∧ W.cell? ⟨n5, 7, none⟩ = some (.int .i64 o.t) ∧ W.cell? ⟨n5, 8, none⟩ = some (.int .i64 o.c) ∧ W.cell? ⟨n5, 9, none⟩ = some (.int .i64 o.i) ∧ W.cell? ⟨n6, 0, none⟩ = some (.int .i64 o.k) ∧ W.cell? ⟨n6, 1, none⟩ = some (.int .i64 o.r) ∧ W.cell? ⟨n6, 2, none⟩ = some (.int .i64 o.o) ∧ W.cell? ⟨n6, 3, none⟩ = some (.int .i64 o.n) ∧ W.cell? ⟨n6, 4, none⟩ = some (.string o.s) ∧ W.cell? ⟨n6, 5, none⟩ = some (.int .i64 o.w) ∧ W.cell? ⟨n6, 6, none⟩ = some (.int .i64 o.h) ∧ W.cell? ⟨n6, 7, none⟩ = some (.int .i64 o.t) ∧ W.cell? ⟨n6, 8, none⟩ = some (.int .i64 o.c) ∧ W.cell? ⟨n6, 9, none⟩ = some (.int .i64 o.i) ∧ W.cell? ⟨n6, 10, none⟩ = some (.bool true) ∧ W.heap[n₀]? = some (.cells #[.int .i64 x.k, .int .i64 x.r, .int .i64 x.o, .int .i64 x.n, .string x.s, .int .i64 x.w, .int .i64 x.h, .int .i64 x.t, .int .i64 x.c, .int .i64 x.i] 25 (0, 0)) ∧ W.heap[n₀ + 1]? = some (.cells #[.int .i64 y.k, .int .i64 y.r, .int .i64 y.o, .int .i64 y.n, .string y.s, .int .i64 y.w, .int .i64 y.h, .int .i64 y.t, .int .i64 y.c, .int .i64 y.i] 25 (0, 0)) ∧ W.heap[n5]? = some (.cells #[.int .i64 o.k, .int .i64 o.r, .int .i64 o.o, .int .i64 o.n, .string o.s, .int .i64 o.w, .int .i64 o.h, .int .i64 o.t, .int .i64 o.c, .int .i64 o.i] 25 (0, 0)) ∧ W.heap[n6]? = some (.cells #[.int .i64 o.k, .int .i64 o.r, .int .i64 o.o, .int .i64 o.n, .string o.s, .int .i64 o.w, .int .i64 o.h, .int .i64 o.t, .int .i64 o.c, .int .i64 o.i, .bool true] 31 (0, 0)) ∧ Below n₀ w W)) (by kernel_rfl) (Hid.out st) (fun hHeld => ?_)
            refine wpAnyH_take (i := 0) (oi := ⟨some 43, _, _, _, _, _⟩) (v := ?_) rfl (by kernel_rfl) (by kernel_rfl) (by kernel_rfl) (fun _ _ _ h => h) (Or.inl ⟨by rfl, ?_⟩) (by assumption) ?_
            rotate_left
            · intro w hSw; (try dsimp only at hSw); go_simp <;> with_reducible rfl
            try simp only [Act.put, List.setIfInBounds_toArray, List.set_cons_zero, List.set_cons_succ]
            refine wpAnyH_take (i := 1) (oi := ⟨some 44, _, _, _, _, _⟩) (v := ?_) rfl (by kernel_rfl) (by kernel_rfl) (by kernel_rfl) (fun _ _ _ h => h) (Or.inl ⟨by rfl, ?_⟩) (by assumption) ?_
            rotate_left
            · intro w hSw; (try dsimp only at hSw); go_simp <;> with_reducible rfl
            try simp only [Act.put, List.setIfInBounds_toArray, List.set_cons_zero, List.set_cons_succ]
            refine wpAnyH_take (i := 2) (oi := ⟨some 45, _, _, _, _, _⟩) (v := ?_) rfl (by kernel_rfl) (by kernel_rfl) (by kernel_rfl) (fun _ _ _ h => h) (Or.inl ⟨by rfl, ?_⟩) (by assumption) ?_
            rotate_left
            · intro w hSw; (try dsimp only at hSw); go_simp <;> with_reducible rfl
            try simp only [Act.put, List.setIfInBounds_toArray, List.set_cons_zero, List.set_cons_succ]
            refine wpAnyH_take (i := 3) (oi := ⟨some 46, _, _, _, _, _⟩) (v := ?_) rfl (by kernel_rfl) (by kernel_rfl) (by kernel_rfl) (fun _ _ _ h => h) (Or.inl ⟨by rfl, ?_⟩) (by assumption) ?_
            rotate_left
            · intro w hSw; (try dsimp only at hSw); go_simp <;> with_reducible rfl
            try simp only [Act.put, List.setIfInBounds_toArray, List.set_cons_zero, List.set_cons_succ]
            refine wpAnyH_take (i := 4) (oi := ⟨some 47, _, _, _, _, _⟩) (v := ?_) rfl (by kernel_rfl) (by kernel_rfl) (by kernel_rfl) (fun _ _ _ h => h) (Or.inl ⟨by rfl, ?_⟩) (by assumption) ?_
            rotate_left
            · intro w hSw; (try dsimp only at hSw); go_simp <;> with_reducible rfl
            try simp only [Act.put, List.setIfInBounds_toArray, List.set_cons_zero, List.set_cons_succ]
            refine wpAnyH_take (i := 5) (oi := ⟨some 48, _, _, _, _, _⟩) (v := ?_) rfl (by kernel_rfl) (by kernel_rfl) (by kernel_rfl) (fun _ _ _ h => h) (Or.inl ⟨by rfl, ?_⟩) (by assumption) ?_
            rotate_left
            · intro w hSw; (try dsimp only at hSw); go_simp <;> with_reducible rfl
            try simp only [Act.put, List.setIfInBounds_toArray, List.set_cons_zero, List.set_cons_succ]
            refine wpAnyH_take (i := 6) (oi := ⟨some 49, _, _, _, _, _⟩) (v := ?_) rfl (by kernel_rfl) (by kernel_rfl) (by kernel_rfl) (fun _ _ _ h => h) (Or.inl ⟨by rfl, ?_⟩) (by assumption) ?_
            rotate_left
            · intro w hSw; (try dsimp only at hSw); go_simp <;> with_reducible rfl
            try simp only [Act.put, List.setIfInBounds_toArray, List.set_cons_zero, List.set_cons_succ]
            refine wpAnyH_take (i := 7) (oi := ⟨some 50, _, _, _, _, _⟩) (v := ?_) rfl (by kernel_rfl) (by kernel_rfl) (by kernel_rfl) (fun _ _ _ h => h) (Or.inl ⟨by rfl, ?_⟩) (by assumption) ?_
            rotate_left
            · intro w hSw; (try dsimp only at hSw); go_simp <;> with_reducible rfl
            try simp only [Act.put, List.setIfInBounds_toArray, List.set_cons_zero, List.set_cons_succ]
            refine wpAnyH_take (i := 8) (oi := ⟨some 51, _, _, _, _, _⟩) (v := ?_) rfl (by kernel_rfl) (by kernel_rfl) (by kernel_rfl) (fun _ _ _ h => h) (Or.inl ⟨by rfl, ?_⟩) (by assumption) ?_
            rotate_left
            · intro w hSw; (try dsimp only at hSw); go_simp <;> with_reducible rfl
            try simp only [Act.put, List.setIfInBounds_toArray, List.set_cons_zero, List.set_cons_succ]
            refine wpAnyH_take (i := 9) (oi := ⟨some 52, _, _, _, _, _⟩) (v := ?_) rfl (by kernel_rfl) (by kernel_rfl) (by kernel_rfl) (fun _ _ _ h => h) (Or.inl ⟨by rfl, ?_⟩) (by assumption) ?_
            rotate_left
            · intro w hSw; (try dsimp only at hSw); go_simp <;> with_reducible rfl
            try simp only [Act.put, List.setIfInBounds_toArray, List.set_cons_zero, List.set_cons_succ]
            refine wpAnyH_take (i := 10) (oi := ⟨some 53, _, _, _, _, _⟩) (v := ?_) rfl (by kernel_rfl) (by kernel_rfl) (by kernel_rfl) (fun _ _ _ h => h) (Or.inl ⟨by rfl, ?_⟩) (by assumption) ?_
            rotate_left
            · intro w hSw; (try dsimp only at hSw); go_simp <;> with_reducible rfl
            try simp only [Act.put, List.setIfInBounds_toArray, List.set_cons_zero, List.set_cons_succ]
            refine wpAnyH_take (i := 11) (oi := ⟨some 54, _, _, _, _, _⟩) (v := ?_) rfl (by kernel_rfl) (by kernel_rfl) (by kernel_rfl) (fun _ _ _ h => h) (Or.inl ⟨by rfl, ?_⟩) (by assumption) ?_
            rotate_left
            · intro w hSw; (try dsimp only at hSw); go_simp <;> with_reducible rfl
            try simp only [Act.put, List.setIfInBounds_toArray, List.set_cons_zero, List.set_cons_succ]
            refine wpAnyH_take (i := 12) (oi := ⟨some 55, _, _, _, _, _⟩) (v := ?_) rfl (by kernel_rfl) (by kernel_rfl) (by kernel_rfl) (fun _ _ _ h => h) (Or.inl ⟨by rfl, ?_⟩) (by assumption) ?_
            rotate_left
            · intro w hSw; (try dsimp only at hSw); go_simp <;> with_reducible rfl
            try simp only [Act.put, List.setIfInBounds_toArray, List.set_cons_zero, List.set_cons_succ]
            refine wpAnyH_take (i := 13) (oi := ⟨some 56, _, _, _, _, _⟩) (v := ?_) rfl (by kernel_rfl) (by kernel_rfl) (by kernel_rfl) (fun _ _ _ h => h) (Or.inl ⟨by rfl, ?_⟩) (by assumption) ?_
            rotate_left
            · intro w hSw; (try dsimp only at hSw); go_simp <;> with_reducible rfl
            try simp only [Act.put, List.setIfInBounds_toArray, List.set_cons_zero, List.set_cons_succ]
            refine wpAnyH_take (i := 14) (oi := ⟨some 57, _, _, _, _, _⟩) (v := ?_) rfl (by kernel_rfl) (by kernel_rfl) (by kernel_rfl) (fun _ _ _ h => h) (Or.inl ⟨by rfl, ?_⟩) (by assumption) ?_
            rotate_left
            · intro w hSw; (try dsimp only at hSw); go_simp <;> with_reducible rfl
            try simp only [Act.put, List.setIfInBounds_toArray, List.set_cons_zero, List.set_cons_succ]
            refine wpAnyH_take (i := 15) (oi := ⟨some 58, _, _, _, _, _⟩) rfl (by kernel_rfl) (by kernel_rfl) (by kernel_rfl) (fun _ _ _ h => h) (Or.inr ⟨by rfl, rfl⟩) (by assumption) ?_
            try simp only [Act.put, List.setIfInBounds_toArray, List.set_cons_zero, List.set_cons_succ]
            refine wpAnyH_take (i := 16) (oi := ⟨some 59, _, _, _, _, _⟩) rfl (by kernel_rfl) (by kernel_rfl) (by kernel_rfl) (fun _ _ _ h => h) (Or.inr ⟨by rfl, rfl⟩) (by assumption) ?_
            try simp only [Act.put, List.setIfInBounds_toArray, List.set_cons_zero, List.set_cons_succ]
            refine wpAnyH_take (i := 17) (oi := ⟨some 60, _, _, _, _, _⟩) (v := ?_) rfl (by kernel_rfl) (by kernel_rfl) (by kernel_rfl) (fun _ _ _ h => h) (Or.inl ⟨by rfl, ?_⟩) (by assumption) ?_
            rotate_left
            · intro w hSw; (try dsimp only at hSw); go_simp <;> with_reducible rfl
            try simp only [Act.put, List.setIfInBounds_toArray, List.set_cons_zero, List.set_cons_succ]
            refine wpAnyH_take (i := 18) (oi := ⟨some 61, _, _, _, _, _⟩) (v := ?_) rfl (by kernel_rfl) (by kernel_rfl) (by kernel_rfl) (fun _ _ _ h => h) (Or.inl ⟨by rfl, ?_⟩) (by assumption) ?_
            rotate_left
            · intro w hSw; (try dsimp only at hSw); go_simp <;> with_reducible rfl
            try simp only [Act.put, List.setIfInBounds_toArray, List.set_cons_zero, List.set_cons_succ]
            refine wpAnyH_take (i := 19) (oi := ⟨some 62, _, _, _, _, _⟩) (v := ?_) rfl (by kernel_rfl) (by kernel_rfl) (by kernel_rfl) (fun _ _ _ h => h) (Or.inl ⟨by rfl, ?_⟩) (by assumption) ?_
            rotate_left
            · intro w hSw; (try dsimp only at hSw); go_simp <;> with_reducible rfl
            try simp only [Act.put, List.setIfInBounds_toArray, List.set_cons_zero, List.set_cons_succ]
            refine wpAnyH_take (i := 20) (oi := ⟨some 63, _, _, _, _, _⟩) (v := ?_) rfl (by kernel_rfl) (by kernel_rfl) (by kernel_rfl) (fun _ _ _ h => h) (Or.inl ⟨by rfl, ?_⟩) (by assumption) ?_
            rotate_left
            · intro w hSw; (try dsimp only at hSw); go_simp <;> with_reducible rfl
            try simp only [Act.put, List.setIfInBounds_toArray, List.set_cons_zero, List.set_cons_succ]
            refine wpAnyH_take (i := 21) (oi := ⟨some 64, _, _, _, _, _⟩) (v := ?_) rfl (by kernel_rfl) (by kernel_rfl) (by kernel_rfl) (fun _ _ _ h => h) (Or.inl ⟨by rfl, ?_⟩) (by assumption) ?_
            rotate_left
            · intro w hSw; (try dsimp only at hSw); go_simp <;> with_reducible rfl
            try simp only [Act.put, List.setIfInBounds_toArray, List.set_cons_zero, List.set_cons_succ]
            refine wpAnyH_take (i := 22) (oi := ⟨some 65, _, _, _, _, _⟩) (v := ?_) rfl (by kernel_rfl) (by kernel_rfl) (by kernel_rfl) (fun _ _ _ h => h) (Or.inl ⟨by rfl, ?_⟩) (by assumption) ?_
            rotate_left
            · intro w hSw; (try dsimp only at hSw); go_simp <;> with_reducible rfl
            try simp only [Act.put, List.setIfInBounds_toArray, List.set_cons_zero, List.set_cons_succ]
            refine wpAnyH_take (i := 23) (oi := ⟨some 66, _, _, _, _, _⟩) (v := ?_) rfl (by kernel_rfl) (by kernel_rfl) (by kernel_rfl) (fun _ _ _ h => h) (Or.inl ⟨by rfl, ?_⟩) (by assumption) ?_
            rotate_left
            · intro w hSw; (try dsimp only at hSw); go_simp <;> with_reducible rfl
            try simp only [Act.put, List.setIfInBounds_toArray, List.set_cons_zero, List.set_cons_succ]
            refine wpAnyH_take (i := 24) (oi := ⟨some 67, _, _, _, _, _⟩) (v := ?_) rfl (by kernel_rfl) (by kernel_rfl) (by kernel_rfl) (fun _ _ _ h => h) (Or.inl ⟨by rfl, ?_⟩) (by assumption) ?_
            rotate_left
            · intro w hSw; (try dsimp only at hSw); go_simp <;> with_reducible rfl
            try simp only [Act.put, List.setIfInBounds_toArray, List.set_cons_zero, List.set_cons_succ]
            refine wpAnyH_take (i := 25) (oi := ⟨some 68, _, _, _, _, _⟩) (v := ?_) rfl (by kernel_rfl) (by kernel_rfl) (by kernel_rfl) (fun _ _ _ h => h) (Or.inl ⟨by rfl, ?_⟩) (by assumption) ?_
            rotate_left
            · intro w hSw; (try dsimp only at hSw); go_simp <;> with_reducible rfl
            try simp only [Act.put, List.setIfInBounds_toArray, List.set_cons_zero, List.set_cons_succ]
            refine wpAnyH_take (i := 26) (oi := ⟨some 69, _, _, _, _, _⟩) (v := ?_) rfl (by kernel_rfl) (by kernel_rfl) (by kernel_rfl) (fun _ _ _ h => h) (Or.inl ⟨by rfl, ?_⟩) (by assumption) ?_
            rotate_left
            · intro w hSw; (try dsimp only at hSw); go_simp <;> with_reducible rfl
            try simp only [Act.put, List.setIfInBounds_toArray, List.set_cons_zero, List.set_cons_succ]
            refine wpAnyH_take (i := 27) (oi := ⟨some 70, _, _, _, _, _⟩) (v := ?_) rfl (by kernel_rfl) (by kernel_rfl) (by kernel_rfl) (fun _ _ _ h => h) (Or.inl ⟨by rfl, ?_⟩) (by assumption) ?_
            rotate_left
            · intro w hSw; (try dsimp only at hSw); go_simp <;> with_reducible rfl
            try simp only [Act.put, List.setIfInBounds_toArray, List.set_cons_zero, List.set_cons_succ]
            refine wpAnyH_take (i := 28) (oi := ⟨some 71, _, _, _, _, _⟩) (v := ?_) rfl (by kernel_rfl) (by kernel_rfl) (by kernel_rfl) (fun _ _ _ h => h) (Or.inl ⟨by rfl, ?_⟩) (by assumption) ?_
            rotate_left
            · intro w hSw; (try dsimp only at hSw); go_simp <;> with_reducible rfl
            try simp only [Act.put, List.setIfInBounds_toArray, List.set_cons_zero, List.set_cons_succ]
            refine wpAnyH_take (i := 29) (oi := ⟨some 72, _, _, _, _, _⟩) (v := ?_) rfl (by kernel_rfl) (by kernel_rfl) (by kernel_rfl) (fun _ _ _ h => h) (Or.inl ⟨by rfl, ?_⟩) (by assumption) ?_
            rotate_left
            · intro w hSw; (try dsimp only at hSw); go_simp <;> with_reducible rfl
            try simp only [Act.put, List.setIfInBounds_toArray, List.set_cons_zero, List.set_cons_succ]
            refine wpAnyH_take (i := 30) (oi := ⟨some 73, _, _, _, _, _⟩) (v := ?_) rfl (by kernel_rfl) (by kernel_rfl) (by kernel_rfl) (fun _ _ _ h => h) (Or.inl ⟨by rfl, ?_⟩) (by assumption) ?_
            rotate_left
            · intro w hSw; (try dsimp only at hSw); go_simp <;> with_reducible rfl
            try simp only [Act.put, List.setIfInBounds_toArray, List.set_cons_zero, List.set_cons_succ]
            refine wpAnyH_take (i := 31) (oi := ⟨some 74, _, _, _, _, _⟩) (v := ?_) rfl (by kernel_rfl) (by kernel_rfl) (by kernel_rfl) (fun _ _ _ h => h) (Or.inl ⟨by rfl, ?_⟩) (by assumption) ?_
            rotate_left
            · intro w hSw; (try dsimp only at hSw); go_simp <;> with_reducible rfl
            try simp only [Act.put, List.setIfInBounds_toArray, List.set_cons_zero, List.set_cons_succ]
            refine wpAnyH_take (i := 32) (oi := ⟨some 75, _, _, _, _, _⟩) (v := ?_) rfl (by kernel_rfl) (by kernel_rfl) (by kernel_rfl) (fun _ _ _ h => h) (Or.inl ⟨by rfl, ?_⟩) (by assumption) ?_
            rotate_left
            · intro w hSw; (try dsimp only at hSw); go_simp <;> with_reducible rfl
            try simp only [Act.put, List.setIfInBounds_toArray, List.set_cons_zero, List.set_cons_succ]
            refine wpAnyH_take (i := 33) (oi := ⟨some 76, _, _, _, _, _⟩) (v := ?_) rfl (by kernel_rfl) (by kernel_rfl) (by kernel_rfl) (fun _ _ _ h => h) (Or.inl ⟨by rfl, ?_⟩) (by assumption) ?_
            rotate_left
            · intro w hSw; (try dsimp only at hSw); go_simp <;> with_reducible rfl
            try simp only [Act.put, List.setIfInBounds_toArray, List.set_cons_zero, List.set_cons_succ]
            refine wpAnyH_take (i := 34) (oi := ⟨some 77, _, _, _, _, _⟩) (v := ?_) rfl (by kernel_rfl) (by kernel_rfl) (by kernel_rfl) (fun _ _ _ h => h) (Or.inl ⟨by rfl, ?_⟩) (by assumption) ?_
            rotate_left
            · intro w hSw; (try dsimp only at hSw); go_simp <;> with_reducible rfl
            try simp only [Act.put, List.setIfInBounds_toArray, List.set_cons_zero, List.set_cons_succ]
            refine wpAnyH_take (i := 35) (oi := ⟨some 78, _, _, _, _, _⟩) rfl (by kernel_rfl) (by kernel_rfl) (by kernel_rfl) (fun _ _ _ h => h) (Or.inr ⟨by rfl, rfl⟩) (by assumption) ?_
            try simp only [Act.put, List.setIfInBounds_toArray, List.set_cons_zero, List.set_cons_succ]
            refine wpAnyH_take (i := 36) (oi := ⟨some 79, _, _, _, _, _⟩) rfl (by kernel_rfl) (by kernel_rfl) (by kernel_rfl) (fun _ _ _ h => h) (Or.inr ⟨by rfl, rfl⟩) (by assumption) ?_
            try simp only [Act.put, List.setIfInBounds_toArray, List.set_cons_zero, List.set_cons_succ]
            refine wpAnyH_take (i := 37) (oi := ⟨some 80, _, _, _, _, _⟩) (v := ?_) rfl (by kernel_rfl) (by kernel_rfl) (by kernel_rfl) (fun _ _ _ h => h) (Or.inl ⟨by rfl, ?_⟩) (by assumption) ?_
            rotate_left
            · intro w hSw; (try dsimp only at hSw); go_simp <;> with_reducible rfl
            try simp only [Act.put, List.setIfInBounds_toArray, List.set_cons_zero, List.set_cons_succ]
            refine wpAnyH_take (i := 38) (oi := ⟨some 81, _, _, _, _, _⟩) (v := ?_) rfl (by kernel_rfl) (by kernel_rfl) (by kernel_rfl) (fun _ _ _ h => h) (Or.inl ⟨by rfl, ?_⟩) (by assumption) ?_
            rotate_left
            · intro w hSw; (try dsimp only at hSw); go_simp <;> with_reducible rfl
            try simp only [Act.put, List.setIfInBounds_toArray, List.set_cons_zero, List.set_cons_succ]
            refine wpAnyH_take (i := 39) (oi := ⟨some 82, _, _, _, _, _⟩) (v := ?_) rfl (by kernel_rfl) (by kernel_rfl) (by kernel_rfl) (fun _ _ _ h => h) (Or.inl ⟨by rfl, ?_⟩) (by assumption) ?_
            rotate_left
            · intro w hSw; (try dsimp only at hSw); go_simp <;> with_reducible rfl
            try simp only [Act.put, List.setIfInBounds_toArray, List.set_cons_zero, List.set_cons_succ]
            refine wpAnyH_take (i := 40) (oi := ⟨some 83, _, _, _, _, _⟩) (v := ?_) rfl (by kernel_rfl) (by kernel_rfl) (by kernel_rfl) (fun _ _ _ h => h) (Or.inl ⟨by rfl, ?_⟩) (by assumption) ?_
            rotate_left
            · intro w hSw; (try dsimp only at hSw); go_simp <;> with_reducible rfl
            try simp only [Act.put, List.setIfInBounds_toArray, List.set_cons_zero, List.set_cons_succ]
            refine wpAnyH_take (i := 41) (oi := ⟨some 84, _, _, _, _, _⟩) (v := ?_) rfl (by kernel_rfl) (by kernel_rfl) (by kernel_rfl) (fun _ _ _ h => h) (Or.inl ⟨by rfl, ?_⟩) (by assumption) ?_
            rotate_left
            · intro w hSw; (try dsimp only at hSw); go_simp <;> with_reducible rfl
            try simp only [Act.put, List.setIfInBounds_toArray, List.set_cons_zero, List.set_cons_succ]
            refine wpAnyH_take (i := 43) (oi := ⟨some 86, _, _, _, _, _⟩) (v := ?_) rfl (by kernel_rfl) (by kernel_rfl) (by kernel_rfl) (fun _ _ _ h => h) (Or.inl ⟨by rfl, ?_⟩) (by assumption) ?_
            rotate_left
            · intro w hSw; (try dsimp only at hSw); go_simp <;> with_reducible rfl
            try simp only [Act.put, List.setIfInBounds_toArray, List.set_cons_zero, List.set_cons_succ]
            refine wpAnyH_take (i := 44) (oi := ⟨some 87, _, _, _, _, _⟩) (v := ?_) rfl (by kernel_rfl) (by kernel_rfl) (by kernel_rfl) (fun _ _ _ h => h) (Or.inl ⟨by rfl, ?_⟩) (by assumption) ?_
            rotate_left
            · intro w hSw; (try dsimp only at hSw); go_simp <;> with_reducible rfl
            try simp only [Act.put, List.setIfInBounds_toArray, List.set_cons_zero, List.set_cons_succ]
            refine wpAnyH_take (i := 45) (oi := ⟨some 88, _, _, _, _, _⟩) (v := ?_) rfl (by kernel_rfl) (by kernel_rfl) (by kernel_rfl) (fun _ _ _ h => h) (Or.inl ⟨by rfl, ?_⟩) (by assumption) ?_
            rotate_left
            · intro w hSw; (try dsimp only at hSw); go_simp; exact sameIfs x y w
            try simp only [Act.put, List.setIfInBounds_toArray, List.set_cons_zero, List.set_cons_succ]
            refine wpAnyH_ready (rs := [42]) (by kernel_rfl) (by simp) ?_
            refine AllReadyH.cons rfl (fun K hK => ?_) AllReadyH.nil
            go_simp
            refine (cS.out _).mono ?_; rintro e w' ⟨rfl, hb9⟩
            try go_wp2_with fail
            refine hK.out _ _ (kS.out _ _ (by assumption) hb9) (fun hHeld => ?_)
            clear hK K
            try simp only [Act.put, List.setIfInBounds_toArray, List.set_cons_zero, List.set_cons_succ]
            refine wpAnyH_take (i := 46) (oi := ⟨some 89, _, _, _, _, _⟩) (v := ?_) rfl (by kernel_rfl) (by kernel_rfl) (by kernel_rfl) (fun _ _ _ h => h) (Or.inl ⟨by rfl, ?_⟩) (by assumption) ?_
            rotate_left
            · intro w hSw; (try dsimp only at hSw); go_simp <;> with_reducible rfl
            try simp only [Act.put, List.setIfInBounds_toArray, List.set_cons_zero, List.set_cons_succ]
            refine wpAnyH_take (i := 47) (oi := ⟨some 90, _, _, _, _, _⟩) (v := ?_) rfl (by kernel_rfl) (by kernel_rfl) (by kernel_rfl) (fun _ _ _ h => h) (Or.inl ⟨by rfl, ?_⟩) (by assumption) ?_
            rotate_left
            · intro w hSw; (try dsimp only at hSw); go_simp <;> with_reducible rfl
            try simp only [Act.put, List.setIfInBounds_toArray, List.set_cons_zero, List.set_cons_succ]
            refine wpAnyH_take (i := 48) (oi := ⟨some 91, _, _, _, _, _⟩) (v := ?_) rfl (by kernel_rfl) (by kernel_rfl) (by kernel_rfl) (fun _ _ _ h => h) (Or.inl ⟨by rfl, ?_⟩) (by assumption) ?_
            rotate_left
            · intro w hSw; (try dsimp only at hSw); go_simp <;> with_reducible rfl
            try simp only [Act.put, List.setIfInBounds_toArray, List.set_cons_zero, List.set_cons_succ]
            refine wpAnyH_ready (rs := [49]) (by kernel_rfl) (by simp) ?_
            refine AllReadyH.cons rfl (fun K hK => ?_) AllReadyH.nil
            go_simp
            refine (cW.out _ (fS.out _ (by assumption))).mono ?_; rintro e w' ⟨rfl, hb9⟩
            try go_wp2_with fail
            refine hK.out _ _ (kS.out _ _ (by assumption) hb9) (fun hHeld => ?_)
            clear hK K
            try simp only [Act.put, List.setIfInBounds_toArray, List.set_cons_zero, List.set_cons_succ]
            refine wpAnyH_take (i := 50) (oi := ⟨some 93, _, _, _, _, _⟩) (v := ?_) rfl (by kernel_rfl) (by kernel_rfl) (by kernel_rfl) (fun _ _ _ h => h) (Or.inl ⟨by rfl, ?_⟩) (by assumption) ?_
            rotate_left
            · intro w hSw; (try dsimp only at hSw); go_simp <;> with_reducible rfl
            try simp only [Act.put, List.setIfInBounds_toArray, List.set_cons_zero, List.set_cons_succ]
            refine wpAnyH_take (i := 51) (oi := ⟨some 6, _, _, _, _, _⟩) (v := ?_) rfl (by kernel_rfl) (by kernel_rfl) (by kernel_rfl) (fun _ _ _ h => h) (Or.inl ⟨by rfl, ?_⟩) (by assumption) ?_
            rotate_left
            · intro w hSw; (try dsimp only at hSw); go_simp <;> with_reducible rfl
            try simp only [Act.put, List.setIfInBounds_toArray, List.set_cons_zero, List.set_cons_succ]
            refine wpAnyH_done (by kernel_rfl) ?_ _
            go_wp2
            go_ret
            exact ⟨rfl, hn₀ ▸ fS.out _ (by assumption)⟩
end Go.Proofs.YtkmnmigpnbehaaaDoor
