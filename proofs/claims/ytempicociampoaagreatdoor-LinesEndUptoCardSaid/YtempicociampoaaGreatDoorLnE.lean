/- The walk of Over. -/
import Derived.Test.YtempicociampoaaGreatDoorLnD
namespace Go.Proofs.YtempicociampoaaGreatDoor
open Go.RowKit Go.Shelf Go.Lib

section
variable {l : List It} {p : Option Addr} {cap : Nat}
theorem cut_w64 (a : Int) : 0 ≤ cutI a 0 10000 ∧ cutI a 0 10000 ≤ 10000 := cutI_bd (by omega)
set_option maxRecDepth 100000 in
set_option maxHeartbeats 1000000 in
theorem Over_any (a b c d e n : Int) (t : Nat) (w : World) (hl : Sl w 6 encIt (.slice p l.length cap) l) (hle : l.length ≤ 5000) (hn : w64 n) (ht : t ≤ l.length) (hok : ∀ x ∈ l, x.ok) :
  Calls Tryz.prog 48 #[.slice p l.length cap, .agg #[.int .i64 a, .int .i64 b, .int .i64 c, .int .i64 d, .int .i64 e], .int .i64 n, .int .i64 t] w fun r w' =>
   r = .returned (.bool (liS l (cutI a 0 10000) (cutI c 0 10000) n t).over) ∧ Below w.heap.size w w' := by
 obtain ⟨n₀, hn₀⟩ : ∃ n, w.heap.size = n := ⟨_, rfl⟩
 have b1 := World.alloc_heap_new w (.cells #[.int .i64 a, .int .i64 b, .int .i64 c, .int .i64 d, .int .i64 e] 26)
 have B1 : Below n₀ w (w.alloc (.cells #[.int .i64 a, .int .i64 b, .int .i64 c, .int .i64 d, .int .i64 e] 26)) := by rw [← hn₀]; exact (Below.refl _ w).alloc (Nat.le_refl _) _
 rw [hn₀] at b1 ⊢
 obtain ⟨W1, hW1⟩ : ∃ W : World, W = w.alloc (.cells #[.int .i64 a, .int .i64 b, .int .i64 c, .int .i64 d, .int .i64 e] 26) := ⟨_, rfl⟩
 rw [← hW1] at b1 B1
 have hz1 : n₀ < W1.heap.size := (Array.getElem?_eq_some_iff.1 b1).1
 have hr1 := range_blk (cs := [Value.int .i64 a, .int .i64 b, .int .i64 c, .int .i64 d, .int .i64 e]) b1
 have hi1 : (Tryz.prog.info? 26).map (·.size) = some [Value.int .i64 a, .int .i64 b, .int .i64 c, .int .i64 d, .int .i64 e].length := by kernel_rfl
 have cO := hid (of_any p l.length cap a b c d e W1)
 have cL := hid (fun (W : World) (h : Below n₀ w W) => line_any (l := l) (p := p) (cap := cap) (wd := cutI a 0 10000) (tol := cutI c 0 10000) n t W ((Kept.of_below (hn₀ ▸ h : Below w.heap.size w W) 0).sl hl) hle hn ht hok (cut_w64 a))
 obtain ⟨L, hL⟩ : ∃ x, l.length = x := ⟨_, rfl⟩
 rw [hL] at cO cL ⊢
 obtain ⟨x, hx⟩ : ∃ x, liS l (cutI a 0 10000) (cutI c 0 10000) n t = x := ⟨_, rfl⟩
 rw [hx] at cL ⊢
 generalize cutI a 0 10000 = wd at *
 generalize cutI c 0 10000 = tol at *
 clear hl hx b1
 go_enter Tryz.func48, Tryz.ntmps48
 go_upto_region 1 with (fail)
 rw [← hW1]
 clear hW1
 try simp only [hn₀]
 go_wp2_with (refine wpList_load_mid rfl 26 _ rfl n₀ 0 rfl [Value.int .i64 a, .int .i64 b, .int .i64 c, .int .i64 d, .int .i64 e] _ hr1 Tryz.underlying26 rfl hi1 ?_)
 refine cO.out.mono ?_
 rintro r w2 ⟨rfl, b2⟩
 have B2 := B1.trans (b2.mono (by omega))
 clear cO b2 B1 hr1
 go_wp2_with (fail)
 refine (cL.out _ B2).mono ?_
 rintro r w3 ⟨rfl, b3⟩
 have B3 := B2.trans (b3.mono (by have := B2.size; omega))
 clear cL b3 B2
 go_wp2_with (fail)
 go_ret
 exact ⟨rfl, B3⟩
end
end Go.Proofs.YtempicociampoaaGreatDoor
