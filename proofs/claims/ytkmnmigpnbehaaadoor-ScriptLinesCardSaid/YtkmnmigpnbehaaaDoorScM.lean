/- The walk of script's Line. -/
import Derived.Test.YtkmnmigpnbehaaaDoorScL
import Derived.Deep.Cut
namespace Go.Proofs.YtkmnmigpnbehaaaDoor
open Go.RowKit Go.Shelf Go.Lib

/-- what Line answers -/
def LineE (s : ByteArray) (n₀ : Nat) (w : World) (e : Ending) (w' : World) : Prop :=
  ∃ y : OpB, e = .returned (.tuple #[opV y, .int .i64 (if (lineS s.data.toList).isSome then 0 else 11)]) ∧ op8 y = (lineS s.data.toList).getD (zeroOp 0) ∧ Below n₀ w w'

theorem forms_at {k : Nat} (hk : k < 8) : ∃ f ∈ formsL, formsL[k]? = some f ∧ (formsL.flatMap encFm).toArray[k * 3]? = some (.int .i64 f.1) ∧ (formsL.flatMap encFm).toArray[k * 3 + 1]? = some (.string ⟨f.2.1.toArray⟩) ∧ (formsL.flatMap encFm).toArray[k * 3 + 2]? = some (.string ⟨f.2.2.toArray⟩) := by
  refine ⟨formsL[k]'hk, List.getElem_mem _, List.getElem?_eq_getElem (show k < formsL.length from hk), ?_⟩
  match k, hk with
  | 0, _ | 1, _ | 2, _ | 3, _ | 4, _ | 5, _ | 6, _ | 7, _ => exact ⟨rfl, rfl, rfl⟩
  | k + 8, h => omega
theorem results_rowtmp {P : Program} {fn : Func} {p q : Tmp} {t1 : TypeId} (h : fn.results = #[.cell p t1, .tmp q]) (tmps : Array Value) (w : World) (g1 : Nat) (t : TypeId) (cs : Array Value) (v2 : Value) (d1 : TypeDesc)
    (hp : tmps.getD p undef = .pointer (some ⟨g1, 0, none⟩)) (hq : tmps.getD q undef = v2) (h1 : w.heap[g1]? = some (.cells cs t (0, 0)))
    (hu1 : P.underlying t1 = some d1) (hd : TypeDesc.isRow d1 = true) (hi : (P.info? t1).map (·.size) = some cs.size) : (results fn tmps).run P w = .ok (.tuple #[.agg cs, v2]) w := by
  have hp' : tmps[p]?.getD undef = .pointer (some ⟨g1, 0, none⟩) := by simpa using hp
  have hq' : tmps[q]?.getD undef = v2 := by simpa using hq
  simp [results, h, hp', hq', asAddr, run_loadVar_row w g1 t t1 cs (0, 0) d1 h1 hu1 (by cases d1 <;> first | rfl | cases hd) hi]
/-- at a return: the operation lies in its box -/
theorem outLine {n₀ : Nat} {W : World} {a : Act} {R : Ending → World → Prop} {y : OpB} {v : Value}
    (h2 : W.heap[n₀]? = some (.cells (opC y) 25 (0, 0))) (e2 : a.tmps.getD 2 undef = .pointer (some ⟨n₀, 0, none⟩)) (e3 : a.tmps.getD 3 undef = v) (hd : a.defers = [])
    (hR : R (.returned (.tuple #[opV y, v])) W) : bodyPost Tryd.prog Tryd.f7 R .ret a W := by
  obtain ⟨d1, hu1, k1⟩ : ∃ d, Tryd.prog.underlying 25 = some d ∧ TypeDesc.isRow d = true := by
    have hk : (Tryd.prog.underlying 25).map TypeDesc.isRow = some true := by kernel_rfl
    obtain ⟨d, h1, h2⟩ := Option.map_eq_some_iff.1 hk
    exact ⟨d, h1, h2⟩
  have hi : (Tryd.prog.info? 25).map (·.size) = some 10 := by kernel_rfl
  exact bodyPost_ret (results_rowtmp (P := Tryd.prog) (fn := Tryd.f7) rfl _ _ n₀ _ (opC y) v d1 e2 e3 h2 hu1 k1 hi) hd hR

set_option maxRecDepth 100000 in
set_option maxHeartbeats 8000000 in
theorem Line_any (s : ByteArray) (w : World) (hs : s.size ≤ 1000000) (hT : STabs w) :
    Calls Tryd.prog 7 #[.string s] w fun e w' => LineE s w.heap.size w e w' := by
  obtain ⟨n₀, hn₀⟩ : ∃ n, w.heap.size = n := ⟨_, rfl⟩
  have hR0 : (fun e w' => LineE s w.heap.size w e w') = fun e w' => LineE s n₀ w e w' := by rw [hn₀]
  rw [hR0]
  clear hR0
  have a1 := World.alloc_heap_new w (.cells (opC zOp) 25)
  have hB1 : Below n₀ w (w.alloc (.cells (opC zOp) 25)) := by rw [← hn₀]; exact (Below.refl _ w).alloc (Nat.le_refl _) _
  have hz1 : (w.alloc (.cells (opC zOp) 25)).heap.size = n₀ + 1 := by simp [hn₀]
  rw [hn₀] at a1
  obtain ⟨W1, hW1⟩ : ∃ V, w.alloc (.cells (opC zOp) 25) = V := ⟨_, rfl⟩
  rw [hW1] at a1 hB1 hz1
  have cF := hid (forms_any W1)
  replace hW1 := hid hW1
  go_enter Tryd.func7, Tryd.ntmps7
  go_wp2_with (fail)
  change Calls _ _ _ (w.alloc (.cells (opC zOp) 25)) _
  rw [hW1.out]
  refine cF.out.mono ?_
  rintro e W2 ⟨rfl, f0, b2⟩
  rw [hz1] at f0 ⊢
  have a2 := (b2.block n₀ (by omega)).trans a1
  have hB2 := hB1.trans (b2.mono (by omega))
  have hz2 := b2.size
  rw [hz1] at hz2
  go_wp2_with (fail)
  go_loopw [10] (fun i wr => ∃ k : Nat, k ≤ 8 ∧ i = .int .i64 k ∧ (∀ f ∈ formsL.take k, matchS f (cutB 32 s.data.toList) = none) ∧ wr.heap[n₀]? = some (.cells (opC zOp) 25 (0, 0)) ∧ wr.heap[n₀ + 1]? = some (.cells (formsL.flatMap encFm).toArray 50 (0, 0)) ∧ Below n₀ w wr ∧ n₀ + 2 ≤ wr.heap.size) (fun i _ => 8 - (RowKit.intOf i).toNat)
  case atStart => exact ⟨0, Nat.zero_le _, rfl, by simp, a2, f0, hB2, by have := (Array.getElem?_eq_some_iff.1 f0).1; omega⟩
  case round =>
    obtain ⟨k, hk, rfl, hno, e0, e1, hB, hz⟩ := hrel
    by_cases hk8 : k < 8
    · have hkI : (k : Int) < 8 := by omega
      obtain ⟨f, hf, hfk, c0, c1, c2⟩ := forms_at hk8
      have g0 := cell_blk e1 c0
      have g1 := cell_blk e1 c1
      have g2 := cell_blk e1 c2
      have hln : (wr.alloc (.cells (encFm f).toArray 50)).heap.size = wr.heap.size + 1 := by simp
      have hBa : Below n₀ w (wr.alloc (.cells (encFm f).toArray 50)) := hB.alloc (by omega) _
      have kA := Kept.alloc 0 wr (.cells (encFm f).toArray 50)
      have e0' := kA.same _ _ e0 (.inl rfl)
      have e1' := kA.same _ _ e1 (.inl rfl)
      have cM := hid (match_any f hf s (wr.alloc (.cells (encFm f).toArray 50)) hs (hT.below (by rw [hn₀]; exact hBa)))
      have htk : formsL.take (k + 1) = formsL.take k ++ [f] := by
        rw [List.take_add_one, hfk]; rfl
      clear c0 c1 c2 kA
      replace hno := hid hno
      replace htk := hid htk
      replace hfk := hid hfk
      replace hf := hid hf
      go_wp2_with (fail)
      refine cM.out.mono ?_
      rintro e w2 ⟨y, b, rfl, hb, hy, b2⟩
      have e0b := (b2.block _ (Array.getElem?_eq_some_iff.1 e0').1).trans e0'
      have e1b := (b2.block _ (Array.getElem?_eq_some_iff.1 e1').1).trans e1'
      have hBb := hBa.trans (b2.mono (by rw [hln]; omega))
      have hzb := b2.size
      rw [hln] at hzb
      have kB := Kept.alloc 0 w2 (.cells (opC y) 25)
      have e0c := kB.same _ _ e0b (.inl rfl)
      have e1c := kB.same _ _ e1b (.inl rfl)
      have y0 := World.alloc_heap_new w2 (.cells (opC y) 25)
      have hBc : Below n₀ w (w2.alloc (.cells (opC y) 25)) := hBb.alloc (by omega) _
      have hzc : (w2.alloc (.cells (opC y) 25)).heap.size = w2.heap.size + 1 := by simp
      clear e0b e1b hBb kB b2 e0' e1' cM
      obtain ⟨xk, xr, xo, xn, xs, xw, xh, xt, xc, xi⟩ := y
      dsimp only [opV, opC] at y0 e0c e1c hBc hzc ⊢
      cases hm : matchS f (cutB 32 s.data.toList) with
      | some z =>
        rw [hm] at hb
        have hbb : b = true := hb
        clear hb
        subst hbb
        have xt0 : ∀ V, (Instr.extract (.tuple #[.agg #[.int .i64 xk, .int .i64 xr, .int .i64 xo, .int .i64 xn, .string xs, .int .i64 xw, .int .i64 xh, .int .i64 xt, .int .i64 xc, .int .i64 xi], .bool true]) 0).run Tryd.prog V = .ok (.agg #[.int .i64 xk, .int .i64 xr, .int .i64 xo, .int .i64 xn, .string xs, .int .i64 xw, .int .i64 xh, .int .i64 xt, .int .i64 xc, .int .i64 xi]) V := fun _ => by kernel_rfl
        have xt1 : ∀ V, (Instr.extract (.tuple #[.agg #[.int .i64 xk, .int .i64 xr, .int .i64 xo, .int .i64 xn, .string xs, .int .i64 xw, .int .i64 xh, .int .i64 xt, .int .i64 xc, .int .i64 xi], .bool true]) 1).run Tryd.prog V = .ok (.bool true) V := fun _ => by kernel_rfl
        have hyz := hy z hm
        have hLs : lineS s.data.toList = some z := by
          unfold lineS
          exact line_of hf.out hm
        replace hm := hid hm
        replace hyz := hid hyz
        replace hLs := hid hLs
        clear hy
        have p0 : (w2.alloc (.cells #[.int .i64 xk, .int .i64 xr, .int .i64 xo, .int .i64 xn, .string xs, .int .i64 xw, .int .i64 xh, .int .i64 xt, .int .i64 xc, .int .i64 xi] 25)).cell? ⟨w2.heap.size, 0, none⟩ = some (.int .i64 xk) := cell_blk (i := 0) y0 rfl
        have p1 : (w2.alloc (.cells #[.int .i64 xk, .int .i64 xr, .int .i64 xo, .int .i64 xn, .string xs, .int .i64 xw, .int .i64 xh, .int .i64 xt, .int .i64 xc, .int .i64 xi] 25)).cell? ⟨w2.heap.size, 1, none⟩ = some (.int .i64 xr) := cell_blk (i := 1) y0 rfl
        have p2 : (w2.alloc (.cells #[.int .i64 xk, .int .i64 xr, .int .i64 xo, .int .i64 xn, .string xs, .int .i64 xw, .int .i64 xh, .int .i64 xt, .int .i64 xc, .int .i64 xi] 25)).cell? ⟨w2.heap.size, 2, none⟩ = some (.int .i64 xo) := cell_blk (i := 2) y0 rfl
        have p3 : (w2.alloc (.cells #[.int .i64 xk, .int .i64 xr, .int .i64 xo, .int .i64 xn, .string xs, .int .i64 xw, .int .i64 xh, .int .i64 xt, .int .i64 xc, .int .i64 xi] 25)).cell? ⟨w2.heap.size, 3, none⟩ = some (.int .i64 xn) := cell_blk (i := 3) y0 rfl
        have p4 : (w2.alloc (.cells #[.int .i64 xk, .int .i64 xr, .int .i64 xo, .int .i64 xn, .string xs, .int .i64 xw, .int .i64 xh, .int .i64 xt, .int .i64 xc, .int .i64 xi] 25)).cell? ⟨w2.heap.size, 4, none⟩ = some (.string xs) := cell_blk (i := 4) y0 rfl
        have p5 : (w2.alloc (.cells #[.int .i64 xk, .int .i64 xr, .int .i64 xo, .int .i64 xn, .string xs, .int .i64 xw, .int .i64 xh, .int .i64 xt, .int .i64 xc, .int .i64 xi] 25)).cell? ⟨w2.heap.size, 5, none⟩ = some (.int .i64 xw) := cell_blk (i := 5) y0 rfl
        have p6 : (w2.alloc (.cells #[.int .i64 xk, .int .i64 xr, .int .i64 xo, .int .i64 xn, .string xs, .int .i64 xw, .int .i64 xh, .int .i64 xt, .int .i64 xc, .int .i64 xi] 25)).cell? ⟨w2.heap.size, 6, none⟩ = some (.int .i64 xh) := cell_blk (i := 6) y0 rfl
        have p7 : (w2.alloc (.cells #[.int .i64 xk, .int .i64 xr, .int .i64 xo, .int .i64 xn, .string xs, .int .i64 xw, .int .i64 xh, .int .i64 xt, .int .i64 xc, .int .i64 xi] 25)).cell? ⟨w2.heap.size, 7, none⟩ = some (.int .i64 xt) := cell_blk (i := 7) y0 rfl
        have p8 : (w2.alloc (.cells #[.int .i64 xk, .int .i64 xr, .int .i64 xo, .int .i64 xn, .string xs, .int .i64 xw, .int .i64 xh, .int .i64 xt, .int .i64 xc, .int .i64 xi] 25)).cell? ⟨w2.heap.size, 8, none⟩ = some (.int .i64 xc) := cell_blk (i := 8) y0 rfl
        have p9 : (w2.alloc (.cells #[.int .i64 xk, .int .i64 xr, .int .i64 xo, .int .i64 xn, .string xs, .int .i64 xw, .int .i64 xh, .int .i64 xt, .int .i64 xc, .int .i64 xi] 25)).cell? ⟨w2.heap.size, 9, none⟩ = some (.int .i64 xi) := cell_blk (i := 9) y0 rfl
        have z0 : (w2.alloc (.cells #[.int .i64 xk, .int .i64 xr, .int .i64 xo, .int .i64 xn, .string xs, .int .i64 xw, .int .i64 xh, .int .i64 xt, .int .i64 xc, .int .i64 xi] 25)).cell? ⟨n₀, 0, none⟩ = some (.int .i64 0) := cell_blk (i := 0) e0c rfl
        have z1 : (w2.alloc (.cells #[.int .i64 xk, .int .i64 xr, .int .i64 xo, .int .i64 xn, .string xs, .int .i64 xw, .int .i64 xh, .int .i64 xt, .int .i64 xc, .int .i64 xi] 25)).cell? ⟨n₀, 1, none⟩ = some (.int .i64 0) := cell_blk (i := 1) e0c rfl
        have z2 : (w2.alloc (.cells #[.int .i64 xk, .int .i64 xr, .int .i64 xo, .int .i64 xn, .string xs, .int .i64 xw, .int .i64 xh, .int .i64 xt, .int .i64 xc, .int .i64 xi] 25)).cell? ⟨n₀, 2, none⟩ = some (.int .i64 0) := cell_blk (i := 2) e0c rfl
        have z3 : (w2.alloc (.cells #[.int .i64 xk, .int .i64 xr, .int .i64 xo, .int .i64 xn, .string xs, .int .i64 xw, .int .i64 xh, .int .i64 xt, .int .i64 xc, .int .i64 xi] 25)).cell? ⟨n₀, 3, none⟩ = some (.int .i64 0) := cell_blk (i := 3) e0c rfl
        have z4 : (w2.alloc (.cells #[.int .i64 xk, .int .i64 xr, .int .i64 xo, .int .i64 xn, .string xs, .int .i64 xw, .int .i64 xh, .int .i64 xt, .int .i64 xc, .int .i64 xi] 25)).cell? ⟨n₀, 4, none⟩ = some (.string ⟨#[]⟩) := cell_blk (i := 4) e0c rfl
        have z5 : (w2.alloc (.cells #[.int .i64 xk, .int .i64 xr, .int .i64 xo, .int .i64 xn, .string xs, .int .i64 xw, .int .i64 xh, .int .i64 xt, .int .i64 xc, .int .i64 xi] 25)).cell? ⟨n₀, 5, none⟩ = some (.int .i64 0) := cell_blk (i := 5) e0c rfl
        have z6 : (w2.alloc (.cells #[.int .i64 xk, .int .i64 xr, .int .i64 xo, .int .i64 xn, .string xs, .int .i64 xw, .int .i64 xh, .int .i64 xt, .int .i64 xc, .int .i64 xi] 25)).cell? ⟨n₀, 6, none⟩ = some (.int .i64 0) := cell_blk (i := 6) e0c rfl
        have z7 : (w2.alloc (.cells #[.int .i64 xk, .int .i64 xr, .int .i64 xo, .int .i64 xn, .string xs, .int .i64 xw, .int .i64 xh, .int .i64 xt, .int .i64 xc, .int .i64 xi] 25)).cell? ⟨n₀, 7, none⟩ = some (.int .i64 0) := cell_blk (i := 7) e0c rfl
        have z8 : (w2.alloc (.cells #[.int .i64 xk, .int .i64 xr, .int .i64 xo, .int .i64 xn, .string xs, .int .i64 xw, .int .i64 xh, .int .i64 xt, .int .i64 xc, .int .i64 xi] 25)).cell? ⟨n₀, 8, none⟩ = some (.int .i64 0) := cell_blk (i := 8) e0c rfl
        have z9 : (w2.alloc (.cells #[.int .i64 xk, .int .i64 xr, .int .i64 xo, .int .i64 xn, .string xs, .int .i64 xw, .int .i64 xh, .int .i64 xt, .int .i64 xc, .int .i64 xi] 25)).cell? ⟨n₀, 9, none⟩ = some (.int .i64 0) := cell_blk (i := 9) e0c rfl
        have fr := fun i => frozen_blk e0c (i := i)
        go_wp2_with (fail)
        refine outLine (n₀ := n₀) (y := ⟨xk, xr, xo, xn, xs, xw, xh, xt, xc, xi⟩) (put10_here (x := ⟨xk, xr, xo, xn, xs, xw, xh, xt, xc, xi⟩) (y := zOp) e0c) rfl rfl rfl ⟨⟨xk, xr, xo, xn, xs, xw, xh, xt, xc, xi⟩, ?_, ?_, put10_below (x := ⟨xk, xr, xo, xn, xs, xw, xh, xt, xc, xi⟩) hBc (Nat.le_refl _)⟩
        · rw [hLs.out]; rfl
        · rw [hLs.out, hyz.out]; rfl
      | none =>
        rw [hm] at hb
        have hbb : b = false := hb
        clear hb
        subst hbb
        have xt0 : ∀ V, (Instr.extract (.tuple #[.agg #[.int .i64 xk, .int .i64 xr, .int .i64 xo, .int .i64 xn, .string xs, .int .i64 xw, .int .i64 xh, .int .i64 xt, .int .i64 xc, .int .i64 xi], .bool false]) 0).run Tryd.prog V = .ok (.agg #[.int .i64 xk, .int .i64 xr, .int .i64 xo, .int .i64 xn, .string xs, .int .i64 xw, .int .i64 xh, .int .i64 xt, .int .i64 xc, .int .i64 xi]) V := fun _ => by kernel_rfl
        have xt1 : ∀ V, (Instr.extract (.tuple #[.agg #[.int .i64 xk, .int .i64 xr, .int .i64 xo, .int .i64 xn, .string xs, .int .i64 xw, .int .i64 xh, .int .i64 xt, .int .i64 xc, .int .i64 xi], .bool false]) 1).run Tryd.prog V = .ok (.bool false) V := fun _ => by kernel_rfl
        clear hy
        replace hm := hid hm
        go_wp2_with (fail)
        refine ⟨⟨k + 1, by omega, by go_num, ?_, e0c, e1c, hBc, by rw [hzc]; omega⟩, by simp [RowKit.intOf]; omega⟩
        intro g hg
        rw [htk.out] at hg
        rcases List.mem_append.1 hg with hg | hg
        · exact hno.out g hg
        · rw [List.mem_singleton.1 hg]; exact hm.out
    · obtain rfl : k = 8 := by omega
      have z0 : wr.cell? ⟨n₀, 0, none⟩ = some (.int .i64 0) := cell_blk (i := 0) e0 rfl
      have z1 : wr.cell? ⟨n₀, 1, none⟩ = some (.int .i64 0) := cell_blk (i := 1) e0 rfl
      have z2 : wr.cell? ⟨n₀, 2, none⟩ = some (.int .i64 0) := cell_blk (i := 2) e0 rfl
      have z3 : wr.cell? ⟨n₀, 3, none⟩ = some (.int .i64 0) := cell_blk (i := 3) e0 rfl
      have z4 : wr.cell? ⟨n₀, 4, none⟩ = some (.string ⟨#[]⟩) := cell_blk (i := 4) e0 rfl
      have z5 : wr.cell? ⟨n₀, 5, none⟩ = some (.int .i64 0) := cell_blk (i := 5) e0 rfl
      have z6 : wr.cell? ⟨n₀, 6, none⟩ = some (.int .i64 0) := cell_blk (i := 6) e0 rfl
      have z7 : wr.cell? ⟨n₀, 7, none⟩ = some (.int .i64 0) := cell_blk (i := 7) e0 rfl
      have z8 : wr.cell? ⟨n₀, 8, none⟩ = some (.int .i64 0) := cell_blk (i := 8) e0 rfl
      have z9 : wr.cell? ⟨n₀, 9, none⟩ = some (.int .i64 0) := cell_blk (i := 9) e0 rfl
      have fr := fun i => frozen_blk e0 (i := i)
      have hL : lineS s.data.toList = none := by
        unfold lineS lineW
        exact List.findSome?_eq_none_iff.2 fun f hf => hno f hf
      replace hno := hid hno
      replace hL := hid hL
      go_wp2_with (fail)
      refine outLine (n₀ := n₀) (y := zOp) (put10_here (x := zOp) e0) rfl rfl rfl ⟨zOp, ?_, ?_, put10_below (x := zOp) hB (Nat.le_refl _)⟩
      · rw [hL.out]; rfl
      · rw [hL.out]; rfl
end Go.Proofs.YtkmnmigpnbehaaaDoor
