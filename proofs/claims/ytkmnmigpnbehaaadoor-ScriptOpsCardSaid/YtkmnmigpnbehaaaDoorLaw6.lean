/- Chapter 30: six numbers that came in. -/
import Derived.Test.YtkmnmigpnbehaaaDoorLaw5
import Derived.OpenShut
namespace Go.Proofs.YtkmnmigpnbehaaaDoor
open Go.Shelf Go.Lib Go.ChangeShapes Go.WideShapes Go.ChangeAt Go.RowKit

theorem array6 {α : Type} {cs : Array α} (h : cs.size = 6) : ∃ c0 c1 c2 c3 c4 c5, cs = #[c0, c1, c2, c3, c4, c5] := by
  obtain ⟨l⟩ := cs
  match l, h with
  | [c0, c1, c2, c3, c4, c5], _ => exact ⟨_, _, _, _, _, _, rfl⟩
theorem wf16 {n : Int} (h : (Lit.int .u16 n).wf = true) : ∃ m : Nat, n = m ∧ m ≤ 65535 := by
  have h2 : 0 ≤ n ∧ n ≤ 65535 := by simpa [Lit.wf, show IntKind.u16.min = 0 from rfl, show IntKind.u16.max = 65535 from rfl] using h
  exact ⟨n.toNat, by omega, by omega⟩
set_option maxRecDepth 100000 in
theorem open_n6 {H : Type} {enc : TypeId × Value → H} {W : World} {r : Reach} {b0 : Nat} {v : Value} {d : DataW H} {p : List MemPlace} (hv : Value.okWide Tryd.prog W r b0 40 v) (h : DataW.Trod enc Tryd.prog W 0 (fun _ => true) true 40 v d p) :
    ∃ m0 m1 m2 m3 m4 m5 : Nat, v = .agg #[.int .u16 m0, .int .u16 m1, .int .u16 m2, .int .u16 m3, .int .u16 m4, .int .u16 m5] ∧ (m0 ≤ 65535 ∧ m1 ≤ 65535 ∧ m2 ≤ 65535 ∧ m3 ≤ 65535 ∧ m4 ≤ 65535 ∧ m5 ≤ 65535) := by
  have hC : Tryd.prog.cellsOf 40 = 6 := by kernel_rfl
  have hC1 : Tryd.prog.cellsOf 39 = 1 := by kernel_rfl
  have hs := Tryd.underlying40
  simp only [Value.okWide, hs] at hv
  obtain ⟨cs, rfl, hsz, -⟩ := hv
  obtain ⟨c0, c1, c2, c3, c4, c5, rfl⟩ := array6 (hsz.trans hC)
  obtain ⟨fuel, hf⟩ := h
  obtain ⟨xs, n, rfl, -, -, hlen, hg⟩ := DataW.trod_array hs hf
  match xs, hlen with
  | [y0, y1, y2, y3, y4, y5], _ =>
  have g0 : DataW.trod enc Tryd.prog W 0 (fun _ => true) true n 39 (List.take (Tryd.prog.cellsOf 39) (List.drop (0 * Tryd.prog.cellsOf 39) [c0, c1, c2, c3, c4, c5])) = some y0 := hg 0 (by decide)
  rw [hC1] at g0
  replace g0 : DataW.trod enc Tryd.prog W 0 (fun _ => true) true n 39 [c0] = some y0 := g0
  obtain ⟨n0, e0, -, w0⟩ := DataW.trod_int Tryd.underlying39 g0
  obtain ⟨m0, rfl, b00⟩ := wf16 w0
  have g1 : DataW.trod enc Tryd.prog W 0 (fun _ => true) true n 39 (List.take (Tryd.prog.cellsOf 39) (List.drop (1 * Tryd.prog.cellsOf 39) [c0, c1, c2, c3, c4, c5])) = some y1 := hg 1 (by decide)
  rw [hC1] at g1
  replace g1 : DataW.trod enc Tryd.prog W 0 (fun _ => true) true n 39 [c1] = some y1 := g1
  obtain ⟨n1, e1, -, w1⟩ := DataW.trod_int Tryd.underlying39 g1
  obtain ⟨m1, rfl, b1⟩ := wf16 w1
  have g2 : DataW.trod enc Tryd.prog W 0 (fun _ => true) true n 39 (List.take (Tryd.prog.cellsOf 39) (List.drop (2 * Tryd.prog.cellsOf 39) [c0, c1, c2, c3, c4, c5])) = some y2 := hg 2 (by decide)
  rw [hC1] at g2
  replace g2 : DataW.trod enc Tryd.prog W 0 (fun _ => true) true n 39 [c2] = some y2 := g2
  obtain ⟨n2, e2, -, w2⟩ := DataW.trod_int Tryd.underlying39 g2
  obtain ⟨m2, rfl, b2⟩ := wf16 w2
  have g3 : DataW.trod enc Tryd.prog W 0 (fun _ => true) true n 39 (List.take (Tryd.prog.cellsOf 39) (List.drop (3 * Tryd.prog.cellsOf 39) [c0, c1, c2, c3, c4, c5])) = some y3 := hg 3 (by decide)
  rw [hC1] at g3
  replace g3 : DataW.trod enc Tryd.prog W 0 (fun _ => true) true n 39 [c3] = some y3 := g3
  obtain ⟨n3, e3, -, w3⟩ := DataW.trod_int Tryd.underlying39 g3
  obtain ⟨m3, rfl, b3⟩ := wf16 w3
  have g4 : DataW.trod enc Tryd.prog W 0 (fun _ => true) true n 39 (List.take (Tryd.prog.cellsOf 39) (List.drop (4 * Tryd.prog.cellsOf 39) [c0, c1, c2, c3, c4, c5])) = some y4 := hg 4 (by decide)
  rw [hC1] at g4
  replace g4 : DataW.trod enc Tryd.prog W 0 (fun _ => true) true n 39 [c4] = some y4 := g4
  obtain ⟨n4, e4, -, w4⟩ := DataW.trod_int Tryd.underlying39 g4
  obtain ⟨m4, rfl, b4⟩ := wf16 w4
  have g5 : DataW.trod enc Tryd.prog W 0 (fun _ => true) true n 39 (List.take (Tryd.prog.cellsOf 39) (List.drop (5 * Tryd.prog.cellsOf 39) [c0, c1, c2, c3, c4, c5])) = some y5 := hg 5 (by decide)
  rw [hC1] at g5
  replace g5 : DataW.trod enc Tryd.prog W 0 (fun _ => true) true n 39 [c5] = some y5 := g5
  obtain ⟨n5, e5, -, w5⟩ := DataW.trod_int Tryd.underlying39 g5
  obtain ⟨m5, rfl, b5⟩ := wf16 w5
  simp only [List.cons.injEq, and_true] at e0 e1 e2 e3 e4 e5
  subst e0 e1 e2 e3 e4 e5
  exact ⟨m0, m1, m2, m3, m4, m5, rfl, b00, b1, b2, b3, b4, b5⟩
end Go.Proofs.YtkmnmigpnbehaaaDoor
