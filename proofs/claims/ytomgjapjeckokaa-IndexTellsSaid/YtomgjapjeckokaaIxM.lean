/- Entries as they lie in memory; the walks of index's key and of (printed by gen_ixm.py). -/
import Derived.Test.YtomgjapjeckokaaIxL
import Derived.Laws.EntriesVeiled
namespace Go.Proofs.Ytomgjapjeckokaa
open Go.RowKit Go.Shelf Go.Lib

structure Ent where
  key : List UInt8
  place : Int
  blocks : Int
  refs : Int
def keyV (k : List UInt8) : List Value := k.map fun b => Value.int .u8 b.toNat
def encE (e : Ent) : List Value := keyV e.key ++ [.int .i64 e.place, .int .i64 e.blocks, .int .i64 e.refs]
def rowE (e : Ent) : Array Value := (encE e).toArray
theorem keyV_len (k : List UInt8) : (keyV k).length = k.length := by simp [keyV]
theorem rowU_key (k : List UInt8) : rowU k = (keyV k).toArray := rfl
theorem encE_len (e : Ent) : (encE e).length = e.key.length + 3 := by simp [encE, keyV]
theorem one_keyV {k : List UInt8} {v : Value} (h : v ∈ keyV k) : v.oneCell' = true := by
  obtain ⟨x, -, rfl⟩ := List.mem_map.1 h
  rfl
theorem one_encE {e : Ent} {v : Value} (h : v ∈ encE e) : v.oneCell' = true := by
  rcases List.mem_append.1 h with h | h
  · exact one_keyV h
  · rcases List.mem_cons.1 h with rfl | h
    · rfl
    · rcases List.mem_cons.1 h with rfl | h
      · rfl
      · obtain rfl := List.mem_singleton.1 h; rfl
theorem one_rowE (e : Ent) : (rowE e).all (·.oneCell') = true := all_oneCell_toArray fun _ h => one_encE h
theorem rowE_size {e : Ent} (h : e.key.length = 32) : (rowE e).size = 35 := by simp [rowE, encE_len, h]
theorem range_key {w : World} {b o : Nat} {e : Ent} (h : w.rangeAt b o (encE e)) : w.rangeAt b o (keyV e.key) := fun j v hj => h j v (by
  unfold encE
  rw [List.getElem?_append_left (List.getElem?_eq_some_iff.1 hj).1]; exact hj)
theorem cell_place {w : World} {b o : Nat} {e : Ent} (h : w.rangeAt b o (encE e)) (hk : e.key.length = 32) : w.cell? ⟨b, o + 32, none⟩ = some (.int .i64 e.place) ∧ w.cell? ⟨b, o + 33, none⟩ = some (.int .i64 e.blocks) ∧ w.cell? ⟨b, o + 34, none⟩ = some (.int .i64 e.refs) := by
  have hl : (keyV e.key).length = 32 := by rw [keyV_len, hk]
  refine ⟨h 32 _ ?_, h 33 _ ?_, h 34 _ ?_⟩
  all_goals
    unfold encE
    rw [List.getElem?_append_right (by omega), hl]
    rfl
theorem Try.infoE : (Try.prog.info? 48).map (fun i => (i.size, i.bytes)) = some (35, 56) := by kernel_rfl

set_option maxRecDepth 100000 in
set_option maxHeartbeats 400000 in
theorem key_any (e : Ent) (w : World) (hk : e.key.length = 32) :
    Calls Try.prog 51 #[.agg (rowE e)] w fun r w' => r = .returned (.agg (rowU e.key)) ∧ Below w.heap.size w w' := by
  obtain ⟨n₀, hn₀⟩ : ∃ n, w.heap.size = n := ⟨_, rfl⟩
  have g0 := World.alloc_heap_new w (.cells (rowE e) 48)
  have hz : (w.alloc (.cells (rowE e) 48)).heap.size = n₀ + 1 := by rw [World.size_alloc, hn₀]
  have g1 := World.alloc_heap_new (w.alloc (.cells (rowE e) 48)) (.cells #[.int .u8 0, .int .u8 0, .int .u8 0, .int .u8 0, .int .u8 0, .int .u8 0, .int .u8 0, .int .u8 0, .int .u8 0, .int .u8 0, .int .u8 0, .int .u8 0, .int .u8 0, .int .u8 0, .int .u8 0, .int .u8 0, .int .u8 0, .int .u8 0, .int .u8 0, .int .u8 0, .int .u8 0, .int .u8 0, .int .u8 0, .int .u8 0, .int .u8 0, .int .u8 0, .int .u8 0, .int .u8 0, .int .u8 0, .int .u8 0, .int .u8 0, .int .u8 0] 46)
  rw [hz] at g1
  have g0' := (Kept.alloc 0 _ (.cells #[.int .u8 0, .int .u8 0, .int .u8 0, .int .u8 0, .int .u8 0, .int .u8 0, .int .u8 0, .int .u8 0, .int .u8 0, .int .u8 0, .int .u8 0, .int .u8 0, .int .u8 0, .int .u8 0, .int .u8 0, .int .u8 0, .int .u8 0, .int .u8 0, .int .u8 0, .int .u8 0, .int .u8 0, .int .u8 0, .int .u8 0, .int .u8 0, .int .u8 0, .int .u8 0, .int .u8 0, .int .u8 0, .int .u8 0, .int .u8 0, .int .u8 0, .int .u8 0] 46)).same _ _ g0 (.inl rfl)
  rw [hn₀] at g0'
  have B0 : Below n₀ w ((w.alloc (.cells (rowE e) 48)).alloc (.cells #[.int .u8 0, .int .u8 0, .int .u8 0, .int .u8 0, .int .u8 0, .int .u8 0, .int .u8 0, .int .u8 0, .int .u8 0, .int .u8 0, .int .u8 0, .int .u8 0, .int .u8 0, .int .u8 0, .int .u8 0, .int .u8 0, .int .u8 0, .int .u8 0, .int .u8 0, .int .u8 0, .int .u8 0, .int .u8 0, .int .u8 0, .int .u8 0, .int .u8 0, .int .u8 0, .int .u8 0, .int .u8 0, .int .u8 0, .int .u8 0, .int .u8 0, .int .u8 0] 46)) := by rw [← hn₀]; exact ((Below.refl _ w).alloc (Nat.le_refl _) _).alloc (by simp) _
  clear g0 hz
  obtain ⟨W1, hW1⟩ : ∃ W : World, W = (w.alloc (.cells (rowE e) 48)).alloc (.cells #[.int .u8 0, .int .u8 0, .int .u8 0, .int .u8 0, .int .u8 0, .int .u8 0, .int .u8 0, .int .u8 0, .int .u8 0, .int .u8 0, .int .u8 0, .int .u8 0, .int .u8 0, .int .u8 0, .int .u8 0, .int .u8 0, .int .u8 0, .int .u8 0, .int .u8 0, .int .u8 0, .int .u8 0, .int .u8 0, .int .u8 0, .int .u8 0, .int .u8 0, .int .u8 0, .int .u8 0, .int .u8 0, .int .u8 0, .int .u8 0, .int .u8 0, .int .u8 0] 46) := ⟨_, rfl⟩
  rw [← hW1] at g1 g0' B0
  have hr := range_key (range_blk (cs := encE e) g0')
  have hi6 : (Try.prog.info? 46).map (·.size) = some (keyV e.key).length := by rw [keyV_len, hk]; kernel_rfl
  have hi7 : (Try.prog.info? 46).map (·.size) = some (rowU e.key).size := by rw [rowU_size, hk]; kernel_rfl
  have ht1 : W1.there (n₀ + 1) 0 (rowU e.key).size := there_blk g1 (by rw [rowU_size, hk]; rfl)
  have u1 := (Upd.refl g1).setCells (rowU e.key).toList (by rw [Array.length_toList, rowU_size, hk]; rfl)
  have BZ := u1.below B0 (by omega)
  have u2 := u1.here
  rw [Array.toArray_toList] at u2
  clear u1 g0'
  replace u2 := hid u2
  replace BZ := hid BZ
  go_enter Try.func51, Try.ntmps51
  go_upto_region 1 with (fail)
  rw [← hW1]
  clear hW1
  go_wp2_with (first | refine wpList_load_mid rfl 46 _ rfl n₀ 0 rfl (keyV e.key) _ hr Try.underlying46 rfl hi6 ?_ | refine wpList_store_mid rfl 46 _ _ rfl (n₀ + 1) 0 (rowU e.key) rfl rfl ht1 hi7 (one_rowU _) ?_)
  exact outRow (ty := 46) rfl u2.out rfl rfl (by kernel_rfl) hi7 ⟨rfl, hn₀ ▸ BZ.out⟩

set_option maxRecDepth 100000 in
set_option maxHeartbeats 400000 in
theorem of_any (p : Option Addr) (n c : Nat) (w : World) :
    Calls Try.prog 34 #[.slice p n c] w fun r w' => r = .returned (.agg #[.slice p n c, .func (.func 51) #[] #[]]) ∧ Below w.heap.size w w' := by
  have g1 := World.alloc_heap_new w (.cells #[.slice none 0 0, Value.nilFunc] 72)
  have B1 : Below w.heap.size w (w.alloc (.cells #[.slice none 0 0, Value.nilFunc] 72)) := (Below.refl _ w).alloc (Nat.le_refl _) _
  obtain ⟨row, hrow⟩ : ∃ a : Array Value, a = #[.slice p n c, .func (.func 51) #[] #[]] := ⟨_, rfl⟩
  have ht1 : (w.alloc (.cells #[.slice none 0 0, Value.nilFunc] 72)).there w.heap.size 0 row.size := there_blk g1 (by rw [hrow]; rfl)
  have hi7 : (Try.prog.info? 72).map (·.size) = some row.size := by rw [hrow]; kernel_rfl
  have h1 : row.all (·.oneCell') = true := by rw [hrow]; simp [Value.oneCell']
  have u1 := (Upd.refl g1).setCells row.toList (by rw [hrow]; rfl)
  have BZ := u1.below B1 (Nat.le_refl _)
  have u2 := u1.here
  rw [Array.toArray_toList] at u2
  clear u1 g1
  go_enter Try.func34, Try.ntmps34
  go_wp2_with (refine wpList_store_mid rfl 72 _ _ rfl w.heap.size 0 row rfl (by rw [hrow]; rfl) ht1 hi7 h1 ?_)
  exact outRow (ty := 72) rfl u2 rfl rfl (by kernel_rfl) hi7 ⟨by rw [hrow], BZ⟩
end Go.Proofs.Ytomgjapjeckokaa
