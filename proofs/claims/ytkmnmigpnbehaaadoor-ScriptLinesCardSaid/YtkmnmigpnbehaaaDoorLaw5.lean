/- Chapter 30: what the rows' list gives; an operation that came in. -/
import Derived.Test.YtkmnmigpnbehaaaDoorScS
import Derived.Test.YtkmnmigpnbehaaaDoorLaw
import Derived.Test.YtkmnmigpnbehaaaDoorRows
import Derived.Lib.LaidU8
import Derived.Lib.LaidTab
namespace Go.Proofs.YtkmnmigpnbehaaaDoor
open Go.Shelf Go.Lib Go.ChangeShapes Go.WideShapes Go.ChangeAt Go.RowKit

def tabList : List (String × DataW Unit) := [("math/bits.deBruijn32tab", Rows.laid_math_bits_deBruijn32tab), ("math/bits.deBruijn64tab", Rows.laid_math_bits_deBruijn64tab), ("internal/strconv.uint64pow10", Rows.laid_internal_strconv_uint64pow10), ("unicode/utf8.acceptRanges", Rows.laid_unicode_utf8_acceptRanges), ("strconv.ErrRange", Rows.laid_strconv_ErrRange), ("strconv.ErrSyntax", Rows.laid_strconv_ErrSyntax), ("unicode/utf8.first", Rows.laid_unicode_utf8_first)]
theorem pow_eq : (Rows.laid_internal_strconv_uint64pow10 : DataW Unit) = Lib.tabData .u64 Lib.pow10Tab := by kernel_rfl

theorem trod_iface {H : Type} {enc : TypeId × Value → H} {P : Program} {w : World} {base : Nat} {sp : Nat → Bool} {fuel : Nat} {t : TypeId} {ms : Array (String × TypeId)} {cs : List Value} {nm : String} {d : DataW H} {p : List MemPlace}
    (ht : P.underlying t = some (.interface ms)) (h : DataW.trod enc P w base sp false fuel t cs = some (.iface nm d, p)) : ∃ u v, cs = [.iface u v] := by
  cases fuel with
  | zero => simp [DataW.trod] at h
  | succ n =>
    unfold DataW.trod at h
    rw [ht] at h
    split at h <;> simp_all
theorem err_of {W : World} {n : String} {g : Nat} {t : TypeId} {ms : Array (String × TypeId)} {nm : String} {d : DataW Unit} (hg : Tryd.prog.globalNamed n = some g) (hty : (Tryd.prog.globals[g]?).map (·.type) = some t) (ht : Tryd.prog.underlying t = some (.interface ms)) (h : VarReads Tryd.prog W n (.iface nm d)) :
    ∃ te pe, W.cell? ⟨g, 0, none⟩ = some (.iface te pe) := by
  obtain ⟨g', t', cs, fuel, p, h1, h2, h3, h4⟩ := h
  obtain rfl := Option.some.inj (hg.symm.trans h1)
  obtain rfl := Option.some.inj (hty.symm.trans h2)
  obtain ⟨u, v, hc⟩ := trod_iface ht h4
  refine ⟨u, v, ?_⟩
  rw [World.var?_cell hg h3 0, ← Array.getElem?_toList, hc]
  rfl
theorem stabs_of {W : World} (hL : laidMet Tryd.prog tabList W) : STabs W := by
  have h1 := Lib.laidMet.reads hL (n := "internal/strconv.uint64pow10") (d := Rows.laid_internal_strconv_uint64pow10) (by simp [tabList])
  have h2 := Lib.laidMet.reads hL (n := "strconv.ErrSyntax") (d := Rows.laid_strconv_ErrSyntax) (by simp [tabList])
  have h3 := Lib.laidMet.reads hL (n := "strconv.ErrRange") (d := Rows.laid_strconv_ErrRange) (by simp [tabList])
  rw [pow_eq] at h1
  refine ⟨?_, err_of (t := 73) (by kernel_rfl) (by kernel_rfl) Tryd.underlying73 h2, err_of (t := 73) (by kernel_rfl) (by kernel_rfl) Tryd.underlying73 h3⟩
  obtain ⟨g, t, cs, fuel, p, e1, e2, e3, e4⟩ := h1
  obtain rfl := Option.some.inj ((show Tryd.prog.globalNamed "internal/strconv.uint64pow10" = some 0 by kernel_rfl).symm.trans e1)
  obtain rfl := Option.some.inj ((show (Tryd.prog.globals[0]?).map (·.type) = some 108 by kernel_rfl).symm.trans e2)
  unfold Lib.TabIs
  rw [e3, ← Lib.cells_of_tab Tryd.underlying108 Tryd.underlying89 (by kernel_rfl) (by kernel_rfl) e4]

theorem array10 {α : Type} {cs : Array α} (h : cs.size = 10) : ∃ c0 c1 c2 c3 c4 c5 c6 c7 c8 c9, cs = #[c0, c1, c2, c3, c4, c5, c6, c7, c8, c9] := by
  obtain ⟨l⟩ := cs
  match l, h with
  | [c0, c1, c2, c3, c4, c5, c6, c7, c8, c9], _ => exact ⟨_, _, _, _, _, _, _, _, _, _, rfl⟩
theorem wf64 {n : Int} (h : (Lit.int .i64 n).wf = true) : -9223372036854775808 ≤ n ∧ n ≤ 9223372036854775807 := by
  simpa [Lit.wf, show IntKind.i64.min = -9223372036854775808 from rfl, show IntKind.i64.max = 9223372036854775807 from rfl] using h
set_option maxRecDepth 100000 in
/-- an operation that came in -/
theorem open_op {H : Type} {enc : TypeId × Value → H} {W : World} {r : Reach} {b0 : Nat} {v : Value} {d : DataW H} {p : List MemPlace} (hv : Value.okWide Tryd.prog W r b0 25 v) (h : DataW.Trod enc Tryd.prog W 0 (fun _ => true) true 25 v d p) :
    ∃ x : OpB, v = opV x ∧ OkO (op8 x) := by
  have hC : Tryd.prog.cellsOf 25 = 10 := by kernel_rfl
  have hC1 : Tryd.prog.cellsOf 3 = 1 := by kernel_rfl
  have hC2 : Tryd.prog.cellsOf 9 = 1 := by kernel_rfl
  have hC5 : Tryd.prog.cellsOf 23 = 5 := by kernel_rfl
  obtain ⟨cs, rfl, hsz⟩ := okWide_struct Tryd.underlying25 hv
  obtain ⟨c0, c1, c2, c3, c4, c5, c6, c7, c8, c9, rfl⟩ := array10 (hsz.trans hC)
  obtain ⟨fuel, hf⟩ := h
  obtain ⟨xs, n, rfl, -, -, hlen, hff⟩ := DataW.trod_struct Tryd.underlying25 hf
  match xs, hlen with
  | [y0, y1, y2, y3, y4, y5], _ =>
  have g0 : DataW.trod enc Tryd.prog W 0 (fun _ => true) true n 3 (List.take (Tryd.prog.cellsOf 3) (List.drop 0 [c0, c1, c2, c3, c4, c5, c6, c7, c8, c9])) = some y0 := hff 0 _ rfl
  rw [hC1] at g0
  replace g0 : DataW.trod enc Tryd.prog W 0 (fun _ => true) true n 3 [c0] = some y0 := g0
  have g1 : DataW.trod enc Tryd.prog W 0 (fun _ => true) true n 3 (List.take (Tryd.prog.cellsOf 3) (List.drop 1 [c0, c1, c2, c3, c4, c5, c6, c7, c8, c9])) = some y1 := hff 1 _ rfl
  rw [hC1] at g1
  replace g1 : DataW.trod enc Tryd.prog W 0 (fun _ => true) true n 3 [c1] = some y1 := g1
  have g2 : DataW.trod enc Tryd.prog W 0 (fun _ => true) true n 3 (List.take (Tryd.prog.cellsOf 3) (List.drop 2 [c0, c1, c2, c3, c4, c5, c6, c7, c8, c9])) = some y2 := hff 2 _ rfl
  rw [hC1] at g2
  replace g2 : DataW.trod enc Tryd.prog W 0 (fun _ => true) true n 3 [c2] = some y2 := g2
  have g3 : DataW.trod enc Tryd.prog W 0 (fun _ => true) true n 3 (List.take (Tryd.prog.cellsOf 3) (List.drop 3 [c0, c1, c2, c3, c4, c5, c6, c7, c8, c9])) = some y3 := hff 3 _ rfl
  rw [hC1] at g3
  replace g3 : DataW.trod enc Tryd.prog W 0 (fun _ => true) true n 3 [c3] = some y3 := g3
  have g4 : DataW.trod enc Tryd.prog W 0 (fun _ => true) true n 9 (List.take (Tryd.prog.cellsOf 9) (List.drop 4 [c0, c1, c2, c3, c4, c5, c6, c7, c8, c9])) = some y4 := hff 4 _ rfl
  rw [hC2] at g4
  replace g4 : DataW.trod enc Tryd.prog W 0 (fun _ => true) true n 9 [c4] = some y4 := g4
  have g5 : DataW.trod enc Tryd.prog W 0 (fun _ => true) true n 23 (List.take (Tryd.prog.cellsOf 23) (List.drop 5 [c0, c1, c2, c3, c4, c5, c6, c7, c8, c9])) = some y5 := hff 5 _ rfl
  rw [hC5] at g5
  replace g5 : DataW.trod enc Tryd.prog W 0 (fun _ => true) true n 23 [c5, c6, c7, c8, c9] = some y5 := g5
  obtain ⟨n0, e0, -, w0⟩ := DataW.trod_int Tryd.underlying3 g0
  obtain ⟨n1, e1, -, w1⟩ := DataW.trod_int Tryd.underlying3 g1
  obtain ⟨n2, e2, -, w2⟩ := DataW.trod_int Tryd.underlying3 g2
  obtain ⟨n3, e3, -, w3⟩ := DataW.trod_int Tryd.underlying3 g3
  obtain ⟨s4, e4, -, w4⟩ := DataW.trod_string Tryd.underlying9 g4
  obtain ⟨zs, m, -, -, -, hlen2, hgg⟩ := DataW.trod_struct Tryd.underlying23 g5
  match zs, hlen2 with
  | [z0, z1, z2, z3, z4], _ =>
  have k0 : DataW.trod enc Tryd.prog W 0 (fun _ => true) true m 3 (List.take (Tryd.prog.cellsOf 3) (List.drop 0 [c5, c6, c7, c8, c9])) = some z0 := hgg 0 _ rfl
  rw [hC1] at k0
  replace k0 : DataW.trod enc Tryd.prog W 0 (fun _ => true) true m 3 [c5] = some z0 := k0
  obtain ⟨n5, e5, -, w5⟩ := DataW.trod_int Tryd.underlying3 k0
  have k1 : DataW.trod enc Tryd.prog W 0 (fun _ => true) true m 3 (List.take (Tryd.prog.cellsOf 3) (List.drop 1 [c5, c6, c7, c8, c9])) = some z1 := hgg 1 _ rfl
  rw [hC1] at k1
  replace k1 : DataW.trod enc Tryd.prog W 0 (fun _ => true) true m 3 [c6] = some z1 := k1
  obtain ⟨n6, e6, -, w6⟩ := DataW.trod_int Tryd.underlying3 k1
  have k2 : DataW.trod enc Tryd.prog W 0 (fun _ => true) true m 3 (List.take (Tryd.prog.cellsOf 3) (List.drop 2 [c5, c6, c7, c8, c9])) = some z2 := hgg 2 _ rfl
  rw [hC1] at k2
  replace k2 : DataW.trod enc Tryd.prog W 0 (fun _ => true) true m 3 [c7] = some z2 := k2
  obtain ⟨n7, e7, -, w7⟩ := DataW.trod_int Tryd.underlying3 k2
  have k3 : DataW.trod enc Tryd.prog W 0 (fun _ => true) true m 3 (List.take (Tryd.prog.cellsOf 3) (List.drop 3 [c5, c6, c7, c8, c9])) = some z3 := hgg 3 _ rfl
  rw [hC1] at k3
  replace k3 : DataW.trod enc Tryd.prog W 0 (fun _ => true) true m 3 [c8] = some z3 := k3
  obtain ⟨n8, e8, -, w8⟩ := DataW.trod_int Tryd.underlying3 k3
  have k4 : DataW.trod enc Tryd.prog W 0 (fun _ => true) true m 3 (List.take (Tryd.prog.cellsOf 3) (List.drop 4 [c5, c6, c7, c8, c9])) = some z4 := hgg 4 _ rfl
  rw [hC1] at k4
  replace k4 : DataW.trod enc Tryd.prog W 0 (fun _ => true) true m 3 [c9] = some z4 := k4
  obtain ⟨n9, e9, -, w9⟩ := DataW.trod_int Tryd.underlying3 k4
  simp only [List.cons.injEq, and_true] at e0 e1 e2 e3 e4 e5 e6 e7 e8 e9
  subst e0 e1 e2 e3 e4 e5 e6 e7 e8 e9
  refine ⟨⟨n0, n1, n2, n3, s4, n5, n6, n7, n8, n9⟩, rfl, ?_⟩
  intro c hc
  rcases lets_cases hc with rfl | rfl | rfl | rfl | rfl | rfl | rfl | rfl
  · exact wf64 w1
  · exact wf64 w2
  · exact wf64 w3
  · exact wf64 w5
  · exact wf64 w6
  · exact wf64 w7
  · exact wf64 w8
  · exact wf64 w9
end Go.Proofs.YtkmnmigpnbehaaaDoor
