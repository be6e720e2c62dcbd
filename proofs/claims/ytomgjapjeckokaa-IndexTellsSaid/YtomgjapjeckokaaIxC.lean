/- SHA-256: constants and the first state (printed by gen_ixc.py). -/
import Derived.Test.YtomgjapjeckokaaIxB
import Derived.Test.YtomgjapjeckokaaRow
import Derived.Deep.Cut
namespace Go.Proofs.Ytomgjapjeckokaa
open Go.RowKit Go.Shelf Go.Lib

def kW : List W32 := [0x428a2f98, 0x71374491, 0xb5c0fbcf, 0xe9b5dba5, 0x3956c25b, 0x59f111f1, 0x923f82a4, 0xab1c5ed5, 0xd807aa98, 0x12835b01, 0x243185be, 0x550c7dc3, 0x72be5d74, 0x80deb1fe, 0x9bdc06a7, 0xc19bf174, 0xe49b69c1, 0xefbe4786, 0x0fc19dc6, 0x240ca1cc, 0x2de92c6f, 0x4a7484aa, 0x5cb0a9dc, 0x76f988da, 0x983e5152, 0xa831c66d, 0xb00327c8, 0xbf597fc7, 0xc6e00bf3, 0xd5a79147, 0x06ca6351, 0x14292967, 0x27b70a85, 0x2e1b2138, 0x4d2c6dfc, 0x53380d13, 0x650a7354, 0x766a0abb, 0x81c2c92e, 0x92722c85, 0xa2bfe8a1, 0xa81a664b, 0xc24b8b70, 0xc76c51a3, 0xd192e819, 0xd6990624, 0xf40e3585, 0x106aa070, 0x19a4c116, 0x1e376c08, 0x2748774c, 0x34b0bcb5, 0x391c0cb3, 0x4ed8aa4a, 0x5b9cca4f, 0x682e6ff3, 0x748f82ee, 0x78a5636f, 0x84c87814, 0x8cc70208, 0x90befffa, 0xa4506ceb, 0xbef9a3f7, 0xc67178f2]
def hW0 : List W32 := [0x6a09e667, 0xbb67ae85, 0x3c6ef372, 0xa54ff53a, 0x510e527f, 0x9b05688c, 0x1f83d9ab, 0x5be0cd19]
def rowW (l : List W32) : Array Value := (l.map vW).toArray
theorem rowW_size (l : List W32) : (rowW l).size = l.length := by simp [rowW]
theorem rowW_at {l : List W32} {i : Nat} {x : W32} (h : l[i]? = some x) : (rowW l)[i]? = some (.int .u32 (x.toNat : Int)) := by simp [rowW, h, vW]
theorem rowW_set (l : List W32) (i : Nat) (x : W32) : (rowW l).setIfInBounds i (.int .u32 (x.toNat : Int)) = rowW (l.set i x) := by simp [rowW, vW, List.map_set]
theorem Try.infoW64 : (Try.prog.info? 118).map (·.size) = some 64 := by kernel_rfl
theorem one_rowW (l : List W32) : (rowW l).all (·.oneCell') = true := all_oneCell_toArray (by
  intro v hv
  obtain ⟨x, -, rfl⟩ := List.mem_map.1 hv
  rfl)
theorem zero64_is : (#[.int .u32 0, .int .u32 0, .int .u32 0, .int .u32 0, .int .u32 0, .int .u32 0, .int .u32 0, .int .u32 0, .int .u32 0, .int .u32 0, .int .u32 0, .int .u32 0, .int .u32 0, .int .u32 0, .int .u32 0, .int .u32 0, .int .u32 0, .int .u32 0, .int .u32 0, .int .u32 0, .int .u32 0, .int .u32 0, .int .u32 0, .int .u32 0, .int .u32 0, .int .u32 0, .int .u32 0, .int .u32 0, .int .u32 0, .int .u32 0, .int .u32 0, .int .u32 0, .int .u32 0, .int .u32 0, .int .u32 0, .int .u32 0, .int .u32 0, .int .u32 0, .int .u32 0, .int .u32 0, .int .u32 0, .int .u32 0, .int .u32 0, .int .u32 0, .int .u32 0, .int .u32 0, .int .u32 0, .int .u32 0, .int .u32 0, .int .u32 0, .int .u32 0, .int .u32 0, .int .u32 0, .int .u32 0, .int .u32 0, .int .u32 0, .int .u32 0, .int .u32 0, .int .u32 0, .int .u32 0, .int .u32 0, .int .u32 0, .int .u32 0, .int .u32 0] : Array Value) = rowW (List.replicate 64 0) := by kernel_rfl

set_option maxRecDepth 100000 in
set_option maxHeartbeats 1000000 in
theorem constants_any (w : World) :
    Calls Try.prog 79 #[] w fun e w' => e = .returned (.agg (rowW kW)) ∧ Below w.heap.size w w' := by
  go_enter Try.func79, Try.ntmps79
  go_upto_region 1 with (fail)
  obtain ⟨W0, hW0⟩ : ∃ W : World, W = w.alloc (.cells #[.int .u32 0, .int .u32 0, .int .u32 0, .int .u32 0, .int .u32 0, .int .u32 0, .int .u32 0, .int .u32 0, .int .u32 0, .int .u32 0, .int .u32 0, .int .u32 0, .int .u32 0, .int .u32 0, .int .u32 0, .int .u32 0, .int .u32 0, .int .u32 0, .int .u32 0, .int .u32 0, .int .u32 0, .int .u32 0, .int .u32 0, .int .u32 0, .int .u32 0, .int .u32 0, .int .u32 0, .int .u32 0, .int .u32 0, .int .u32 0, .int .u32 0, .int .u32 0, .int .u32 0, .int .u32 0, .int .u32 0, .int .u32 0, .int .u32 0, .int .u32 0, .int .u32 0, .int .u32 0, .int .u32 0, .int .u32 0, .int .u32 0, .int .u32 0, .int .u32 0, .int .u32 0, .int .u32 0, .int .u32 0, .int .u32 0, .int .u32 0, .int .u32 0, .int .u32 0, .int .u32 0, .int .u32 0, .int .u32 0, .int .u32 0, .int .u32 0, .int .u32 0, .int .u32 0, .int .u32 0, .int .u32 0, .int .u32 0, .int .u32 0, .int .u32 0] 118) := ⟨_, rfl⟩
  have a0 : W0.heap[w.heap.size]? = some (.cells (rowW (List.replicate 64 0)) 118 (0, 0)) := by
    rw [hW0, zero64_is]; exact World.alloc_heap_new w _
  have B0 : Below w.heap.size w W0 := by rw [hW0]; exact (Below.refl _ w).alloc (Nat.le_refl _) _
  rw [← hW0]
  clear hW0
  refine wp_region_list ?_
  refine wpList_yield rfl (.agg (rowW kW)) (by kernel_rfl) ?_
  refine wpList_store_mid rfl 118 _ _ rfl w.heap.size 0 (rowW kW) rfl rfl (there_blk a0 (by kernel_rfl)) (by kernel_rfl) (one_rowW _) ?_
  have u1 := (Upd.refl a0).setCells (rowW kW).toList (by kernel_rfl)
  have B1 := u1.below B0 (Nat.le_refl _)
  obtain ⟨W1, hW1⟩ : ∃ W : World, W = W0.setCells w.heap.size 0 (rowW kW).toList := ⟨_, rfl⟩
  rw [← hW1] at u1 B1 ⊢
  clear hW1
  refine wpList_nil ?_
  go_wp2_with (fail)
  exact outRow (ty := 118) rfl u1.here rfl rfl (by kernel_rfl) (by kernel_rfl) ⟨rfl, B1⟩

set_option maxRecDepth 100000 in
set_option maxHeartbeats 1000000 in
theorem start_any (w : World) :
    Calls Try.prog 75 #[] w fun e w' => e = .returned (.agg (rowW hW0)) ∧ Below w.heap.size w w' := by
  have hk : rowW hW0 = #[.int .u32 1779033703, .int .u32 3144134277, .int .u32 1013904242, .int .u32 2773480762, .int .u32 1359893119, .int .u32 2600822924, .int .u32 528734635, .int .u32 1541459225] := by kernel_rfl
  rw [hk]
  clear hk
  go_enter Try.func75, Try.ntmps75
  go_wp2_with (fail)
  exact outRow (ty := 110) rfl (World.alloc_heap_new w _) rfl rfl (by kernel_rfl) (by kernel_rfl) ⟨rfl, (Below.refl _ w).alloc (Nat.le_refl _) _⟩
end Go.Proofs.Ytomgjapjeckokaa
