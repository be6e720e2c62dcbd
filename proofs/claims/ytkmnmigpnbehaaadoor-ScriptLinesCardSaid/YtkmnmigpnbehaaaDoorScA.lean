/- The walks of script's Same, forms, field; operations as they lie in memory. -/
import Derived.Test.YtkmnmigpnbehaaaDoorScQ
import Derived.Test.YtkmnmigpnbehaaaDoorApp
namespace Go.Proofs.YtkmnmigpnbehaaaDoor
open Go.RowKit Go.Shelf Go.Lib

theorem Tryd.infoOp : (Tryd.prog.info? 25).map (fun i => (i.zero, i.size)) = some (some (.agg #[.int .i64 0, .int .i64 0, .int .i64 0, .int .i64 0, .string ⟨#[]⟩, .int .i64 0, .int .i64 0, .int .i64 0, .int .i64 0, .int .i64 0]), 10) := by kernel_rfl

/-- an operation, its source as a text -/
structure OpB where
  k : Int
  r : Int
  o : Int
  n : Int
  s : ByteArray
  w : Int
  h : Int
  t : Int
  c : Int
  i : Int
def opC (x : OpB) : Array Value := #[.int .i64 x.k, .int .i64 x.r, .int .i64 x.o, .int .i64 x.n, .string x.s, .int .i64 x.w, .int .i64 x.h, .int .i64 x.t, .int .i64 x.c, .int .i64 x.i]
def opV (x : OpB) : Value := .agg (opC x)
def op8 (x : OpB) : Op8 := ⟨x.k, x.r, x.o, x.n, x.s.data.toList, x.w, x.h, x.t, x.c, x.i⟩
def sameB (x y : OpB) : Bool := decide (x.k = y.k ∧ x.r = y.r ∧ x.o = y.o ∧ x.n = y.n ∧ x.s.data.toList = y.s.data.toList ∧ x.w = y.w ∧ x.h = y.h ∧ x.t = y.t ∧ x.c = y.c ∧ x.i = y.i)
theorem sameB_iff (x y : OpB) : sameB x y = true ↔ op8 x = op8 y := by
  unfold sameB op8
  rw [decide_eq_true_iff, Op8.mk.injEq]

set_option maxRecDepth 100000 in
set_option maxHeartbeats 4000000 in
theorem Same_any (x y : OpB) (w : World) :
    Calls Tryd.prog 11 #[opV x, opV y] w fun e w' => e = .returned (.bool (sameB x y)) ∧ Below w.heap.size w w' := by
  have hs : sameB x y = decide (x.k = y.k ∧ x.r = y.r ∧ x.o = y.o ∧ x.n = y.n ∧ x.s.toList = y.s.toList ∧ x.w = y.w ∧ x.h = y.h ∧ x.t = y.t ∧ x.c = y.c ∧ x.i = y.i) := by
    unfold sameB; rw [Lib.toList_data, Lib.toList_data]
  rw [hs]
  clear hs
  unfold opV opC
  obtain ⟨a, b, c, d, s, e, f, g, h, i⟩ := x
  obtain ⟨a', b', c', d', s', e', f', g', h', i'⟩ := y
  dsimp only
  go_enter Tryd.func11, Tryd.ntmps11
  go_wp2_with (fail)
  all_goals
    go_ret
    exact ⟨by simp_all, ((Below.refl _ w).alloc (Nat.le_refl _) _).alloc (by simp) _⟩

def encFm (f : Int × L8 × L8) : List Value := [.int .i64 f.1, .string ⟨f.2.1.toArray⟩, .string ⟨f.2.2.toArray⟩]
set_option maxRecDepth 100000 in
set_option maxHeartbeats 4000000 in
theorem forms_any (w : World) :
    Calls Tryd.prog 14 #[] w fun e w' => e = .returned (.slice (some ⟨w.heap.size, 0, none⟩) 8 8) ∧ w'.heap[w.heap.size]? = some (.cells (formsL.flatMap encFm).toArray 50 (0, 0)) ∧ Below w.heap.size w w' := by
  go_enter Tryd.func14, Tryd.ntmps14
  go_wp2_with (fail)
  go_ret
  exact ⟨rfl, World.alloc_heap_new w _, (Below.refl _ w).alloc (Nat.le_refl _) _⟩

/-- where a letter's number lies in an operation's cells -/
def offF (c : UInt8) : Nat := if c = 82 then 1 else if c = 79 then 2 else if c = 78 then 3 else if c = 87 then 5 else if c = 72 then 6 else if c = 84 then 7 else if c = 67 then 8 else 9
set_option maxRecDepth 100000 in
set_option maxHeartbeats 4000000 in
theorem field_any (b o : Nat) (c : UInt8) (hc : c ∈ lets) (w : World) :
    Calls Tryd.prog 22 #[.pointer (some ⟨b, o, none⟩), .int .u8 c.toNat] w fun e w' => e = .returned (.pointer (some ⟨b, o + offF c, none⟩)) ∧ w' = w := by
  rcases lets_cases hc with rfl | rfl | rfl | rfl | rfl | rfl | rfl | rfl
  all_goals
    clear hc
    go_enter Tryd.func22, Tryd.ntmps22
    go_wp2_with (fail)
    go_ret
    exact ⟨rfl, rfl⟩
end Go.Proofs.YtkmnmigpnbehaaaDoor
