/- The walk of utf's iterator over a text's signs. -/
import Derived.Test.YtjkfefjfmocekaaDoorRange
import Derived.Test.YtjkfefjfmocekaaDoorUtfP
import Derived.Lib.OthersKept
namespace Go.Proofs.YtjkfefjfmocekaaDoor
open Go.RowKit Go.Shelf Go.Lib
attribute [local go_sem] Oper.semAt_some

def sgEnc (x : Int) : Array Value := #[.int .i64 x]
def SgR (b : Nat) (s : ByteArray) (W : World) : Prop := W.cell? ⟨b, 0, none⟩ = some (.string s)
theorem SgR.st {b : Nat} {s : ByteArray} (B : Nat) : St B (SgR b s) := fun _ _ hk h => hk.cell h

set_option maxRecDepth 100000 in
set_option maxHeartbeats 1000000 in
theorem signs1_seq (b : Nat) (s : ByteArray) (xs : List Int) (hx : ∀ x ∈ xs, okv x) (hs : s.data.toList = txt xs) :
    Seq Tryd.prog 36 #[.pointer (some ⟨b, 0, none⟩)] sgEnc (SgR b s) (fun pre x _ => pre ++ [x] <+: xs) (fun ys _ => ys = xs) (fun _ _ => True) := by
  intro l J Jx W hJ hJx hY h0 hR0
  have hR1 : W.cell? ⟨b, 0, none⟩ = some (.string s) := hR0
  refine calls_of_wpIn Tryd.func36 rfl ?_
  simp only [Tryd.ntmps36, List.size_toArray, List.length_cons, List.length_nil, Nat.reduceAdd, Nat.reduceSub, Array.replicate_succ, Array.replicate_zero, List.push_toArray, List.append_toArray, List.nil_append, List.cons_append]
  have kI : Kept W.heap.size W (W.iter s 0) := Kept.alloc _ _ _
  have hI0 : (W.iter s 0).heap[W.heap.size]? = some (.stringIter s 0) := World.iter_heap W s 0
  gi_wp2
  gi_loopw [4] (fun _ wr => ∃ k : Nat, k ≤ xs.length ∧ J (xs.take k) wr ∧ SgR b s wr ∧ wr.heap[W.heap.size]? = some (.stringIter s (txt (xs.take k)).length)) (fun _ wr => s.size - wr.iterPos W.heap.size)
  case atStart => exact ⟨0, Nat.zero_le _, hJ _ _ _ kI h0, SgR.st _ _ _ kI hR0, hI0⟩
  case round =>
    obtain ⟨k, hk, hJs, hRs, hit⟩ := hrel
    by_cases hlt : k < xs.length
    · obtain ⟨hd, hlen, hpos⟩ := dec_at hx hs hlt
      have hnx := run_next_any_at (P := Tryd.prog) wr W.heap.size s (txt (xs.take k)).length 0 hit hpos
      have hk1 : xs.take (k + 1) = xs.take k ++ [xs[k]] := List.take_succ_eq_append_getElem hlt
      have hadm : xs.take k ++ [xs[k]] <+: xs := by rw [← hk1]; exact List.take_prefix _ _
      have hok := hx _ (List.getElem_mem hlt)
      obtain ⟨c1, c2, -⟩ := hok
      have hbl := (enc_len (hx _ (List.getElem_mem hlt))).1
      rw [hd] at hnx
      have ec : ((xs[k].toNat : Nat) : Int) = xs[k] := by omega
      simp only [ec] at hnx
      rw [← hlen] at hnx
      rw [← hk1] at hadm
      have Hk1 := hid hk1
      have Hlen := hid hlen
      clear hk1 hlen hd ec
      generalize xs[k] = x at *
      obtain ⟨W2, hW2⟩ : ∃ W2, wr.iterAt W.heap.size s (txt (xs.take (k + 1))).length = W2 := ⟨_, rfl⟩
      have kp : Kept W.heap.size wr W2 := by rw [← hW2]; exact Kept.putObj _ (Nat.le_refl _) hit rfl
      have hit2 : W2.heap[W.heap.size]? = some (.stringIter s (txt (xs.take (k + 1))).length) := by rw [← hW2]; exact iterAt_heap _ _ _ _ _ hit
      rw [hW2] at hnx
      clear hW2
      have hR2 := SgR.st _ _ _ kp hRs
      rw [Hk1.out] at hadm
      obtain ⟨fn, tmps, assign, body, hy, hR⟩ := hY _ x W2 (hJ _ _ _ kp hJs) hR2 hadm
      dsimp only [sgEnc] at hy
      gi_wp2
      refine ⟨rfl, hR.mono ?_⟩
      rintro e W3 (⟨rfl, hJ3, hR3, hkf⟩ | ⟨rfl, hJx3⟩)
      · have hit3 := hkf.same _ _ (Nat.le_refl _) hit2 rfl
        gi_wp2
        go_roundw
        case rel => exact ⟨k + 1, by omega, by rw [Hk1.out]; exact hJ3, hR3, hit3⟩
        case measure => rw [iterPos_of hit3, iterPos_of hit, Hlen.out]; omega
      · gi_wp2
        refine bodyPost_ret (results_none rfl _ _ _) rfl ?_
        exact ⟨⟨_, rfl⟩, .inr ⟨_, trivial, hJx3⟩⟩
    · have hte : xs.take k = xs := List.take_of_length_le (by omega)
      rw [hte] at hit hJs
      have hnx := run_next_end_at (P := Tryd.prog) wr W.heap.size s (txt xs).length 0 hit (by rw [txt_size hs]; omega)
      gi_wp2
      go_end0
      exact ⟨⟨_, rfl⟩, .inl ⟨_, rfl, hJs, hRs⟩⟩
theorem Tryd.infoI : (Tryd.prog.info? 3).map (fun i => (i.zero, i.size, i.bytes)) = some (some (.int .i64 0), 1, 8) := by kernel_rfl

end Go.Proofs.YtjkfefjfmocekaaDoor
