/- The walks of strings.SplitSeq at a separator of one byte: its iterator. -/
import Derived.Test.YtkmnmigpnbehaaaDoorMkP
import Derived.Test.YtkmnmigpnbehaaaDoorRangeB
import Derived.Lib.IndexLaws
import Derived.Shelf.Strings.Search3
import Derived.Test.YtkmnmigpnbehaaaDoorShelfC
namespace Go.Proofs.YtkmnmigpnbehaaaDoor
open Go.RowKit Go.Shelf
attribute [local go_sem] Oper.semAt_some

def toB (l : L8) : ByteArray := ⟨l.toArray⟩
theorem toB_list (l : L8) : (toB l).data.toList = l := rfl
theorem toB_size (l : L8) : (toB l).size = l.length := rfl
theorem ba_toB (s : ByteArray) : toB s.data.toList = s := by
  obtain ⟨⟨a⟩⟩ := s; rfl
theorem ba_ext8 {a b : ByteArray} (h : a.data.toList = b.data.toList) : a = b := by rw [← ba_toB a, h, ba_toB]
theorem ex8 (s : ByteArray) (i j : Nat) : (s.extract i j).data.toList = (s.data.toList.take j).drop i := by
  simp [ByteArray.data_extract, List.extract_eq_take_drop, List.take_drop]
  by_cases h : i ≤ j
  · rw [List.drop_take, show i + (j - i) - i = j - i by omega, List.drop_take]
  · rw [List.drop_eq_nil_of_le (by simp; omega), List.drop_eq_nil_of_le (by simp; omega)]
theorem size8 (s : ByteArray) : s.data.toList.length = s.size := by rw [Array.length_toList]; rfl

/-- a text's pieces between bytes of a kind -/
def pcsB (c : UInt8) (s : ByteArray) : List ByteArray := (cutB c s.data.toList).map toB
theorem pcsB_none {c : UInt8} {s : ByteArray} (h : Lib.indexByte s.data.toList c = -1) : pcsB c s = [s] := by
  unfold pcsB
  rw [cutB_none (fun hm => ?_)]
  · simp [ba_toB]
  · obtain ⟨k, hk⟩ := List.mem_iff_getElem?.1 hm
    exact Lib.indexByte_none h k hk
theorem pcsB_hit {c : UInt8} {s : ByteArray} {i : Nat} (h : Lib.indexByte s.data.toList c = i) : i < s.size ∧ pcsB c s = s.extract 0 i :: pcsB c (s.extract (i + 1) s.size) := by
  obtain ⟨h1, h2⟩ := Lib.indexByte_some h
  have hi : i < s.data.toList.length := (List.getElem?_eq_some_iff.1 h1).1
  have hi2 := hi
  rw [size8] at hi2
  refine ⟨hi2, ?_⟩
  have hsp : s.data.toList = s.data.toList.take i ++ c :: s.data.toList.drop (i + 1) := by
    rw [← (List.getElem?_eq_some_iff.1 h1).2, ← List.drop_eq_getElem_cons, List.take_append_drop]
  have hn : c ∉ s.data.toList.take i := fun hm => by
    obtain ⟨k, hk⟩ := List.mem_iff_getElem?.1 hm
    rw [List.getElem?_take] at hk
    split at hk
    · exact h2 k (by assumption) hk
    · cases hk
  unfold pcsB
  conv => lhs; rw [hsp]
  rw [cutB_hit _ hn, List.map_cons]
  congr 1
  · exact ba_ext8 (by rw [toB_list, ex8, List.drop_zero])
  · rw [ex8, ← size8, List.take_length]

def strEnc (x : ByteArray) : Array Value := #[.string x]
/-- what the iterator reads: the separator, and how much of it stays -/
def SpR (c : UInt8) (bp bq : Nat) (W : World) : Prop := W.heap[bp]? = some (.cells #[.string ⟨#[c]⟩] 9 (0, 0)) ∧ W.heap[bq]? = some (.cells #[.int .i64 0] 3 (0, 0))
theorem SpR.st {c : UInt8} {bp bq : Nat} (B : Nat) : St B (SpR c bp bq) := fun _ _ hk ⟨h1, h2⟩ => ⟨hk.same _ _ h1 (.inl rfl), hk.same _ _ h2 (.inl rfl)⟩
theorem SpR.stb {c : UInt8} {bp bq : Nat} {N : Nat → Bool} (B : Nat) (h1 : N bp = false) (h2 : N bq = false) : StB N B (SpR c bp bq) := fun _ _ hk ⟨g1, g2⟩ => ⟨hk.same _ _ g1 h1 (.inl rfl), hk.same _ _ g2 h2 (.inl rfl)⟩
/-- how much of the text is left in the iterator's box -/
def leftOf (b : Nat) (W : World) : Nat := match W.cell? ⟨b, 0, none⟩ with | some (.string r) => r.size | _ => 0
theorem leftOf_of {b : Nat} {W : World} {r : ByteArray} (h : W.heap[b]? = some (.cells #[.string r] 9 (0, 0))) : leftOf b W = r.size := by unfold leftOf; rw [cell_blk (i := 0) h rfl]; rfl

set_option maxRecDepth 100000 in
set_option maxHeartbeats 4000000 in
theorem split1_seq (c : UInt8) (s : ByteArray) (hs : s.size ≤ 1000000) (bp bs bq : Nat) (hp : bp ≠ bs) (hq : bq ≠ bs) :
    SeqB Tryd.prog (fun k => k == bs) 48 #[.pointer (some ⟨bp, 0, none⟩), .pointer (some ⟨bs, 0, none⟩), .pointer (some ⟨bq, 0, none⟩)] strEnc (SpR c bp bq) (fun W => W.heap[bs]? = some (.cells #[.string s] 9 (0, 0)))
      (fun pre x _ => pre ++ [x] <+: pcsB c s) (fun xs _ => xs = pcsB c s) (fun _ _ => True) := by
  intro l J Jx W hJ hJx hY h0 hR0 hb0
  have hNp : (fun k => k == bs) bp = false := by simpa using hp
  have hNq : (fun k => k == bs) bq = false := by simpa using hq
  have hw0 : W.cell? ⟨bp, 0, none⟩ = some (.string ⟨#[c]⟩) := cell_blk (i := 0) hR0.1 rfl
  refine calls_of_wpIn Tryd.func48 rfl ?_
  simp only [Tryd.ntmps48, List.size_toArray, List.length_cons, List.length_nil, Nat.reduceAdd, Nat.reduceSub, Array.replicate_succ, Array.replicate_zero, List.push_toArray, List.append_toArray, List.nil_append, List.cons_append]
  gi_wp2_with (fail)
  gi_loopw [7, 8] (fun _ _ wr => ∃ (pre : List ByteArray) (r : ByteArray), J pre wr ∧ SpR c bp bq wr ∧ wr.heap[bs]? = some (.cells #[.string r] 9 (0, 0)) ∧ pcsB c s = pre ++ pcsB c r ∧ r.size ≤ 1000000) (fun _ _ wr => leftOf bs wr)
  case atStart => exact ⟨[], s, h0, hR0, hb0, rfl, hs⟩
  case round =>
    obtain ⟨pre, r, hJs, hRs, hb, hpc, hr⟩ := hrel
    have x0 : wr.cell? ⟨bs, 0, none⟩ = some (.string r) := cell_blk (i := 0) hb rfl
    have xf := frozen_blk hb (i := 0)
    have x1 : wr.cell? ⟨bp, 0, none⟩ = some (.string ⟨#[c]⟩) := cell_blk (i := 0) hRs.1 rfl
    have x2 : wr.cell? ⟨bq, 0, none⟩ = some (.int .i64 0) := cell_blk (i := 0) hRs.2 rfl
    have cI := Tryd.strings_Index_one r c wr
    have hge := Lib.indexByte_ge r.data.toList c
    by_cases hi : Lib.indexByte r.data.toList c = -1
    · have hpr := pcsB_none hi
      rw [hpr] at hpc
      obtain ⟨fn, tmps, assign, body, hy, hR⟩ := hY pre r wr hJs hRs (by rw [hpc]; exact List.prefix_refl _)
      dsimp only [strEnc] at hy
      rw [hi] at cI
      clear hge hi hpr
      gi_wp2_with (fail)
      refine ⟨trivial, rfl, (callsIn_wide.2 cI).mono ?_⟩
      rintro e w' ⟨rfl, hw'⟩
      obtain rfl : wr = w' := hw'.symm
      gi_wp2_with (fail)
      refine ⟨rfl, hR.mono ?_⟩
      rintro e W3 (⟨rfl, hJ3, hR3, -⟩ | ⟨rfl, hJx3, -⟩)
      · gi_wp2_with (fail)
        go_end0
        exact ⟨⟨_, rfl⟩, .inl ⟨_, hpc.symm, hJ3, hR3⟩⟩
      · gi_wp2_with (fail)
        go_end0
        exact ⟨⟨_, rfl⟩, .inr ⟨_, trivial, hJx3⟩⟩
    · obtain ⟨i, hii⟩ : ∃ i : Nat, Lib.indexByte r.data.toList c = i := ⟨(Lib.indexByte r.data.toList c).toNat, by omega⟩
      obtain ⟨hlt, hph⟩ := pcsB_hit hii
      rw [hph] at hpc
      rw [hii] at cI
      have hext : (r.extract (i + 1) r.size).size + (i + 1) = r.size := by rw [ByteArray.size_extract]; omega
      obtain ⟨fn, tmps, assign, body, hy, hR⟩ := hY pre (r.extract 0 i) wr hJs hRs (by rw [hpc]; exact ⟨pcsB c (r.extract (i + 1) r.size), by simp⟩)
      dsimp only [strEnc] at hy
      have hiI : (i : Int) < r.size := by omega
      have hrI : (r.size : Int) ≤ 1000000 := by omega
      clear hge hi hph hii
      gi_wp2_with (fail)
      refine ⟨trivial, rfl, (callsIn_wide.2 cI).mono ?_⟩
      rintro e w' ⟨rfl, hw'⟩
      obtain rfl : wr = w' := hw'.symm
      gi_wp2_with (fail)
      refine ⟨rfl, hR.mono ?_⟩
      rintro e W3 (⟨rfl, hJ3, hR3, hkf⟩ | ⟨rfl, hJx3, -⟩)
      · have hb3 := hkf.same _ _ hb (.inr (by simp))
        have y0 : W3.cell? ⟨bs, 0, none⟩ = some (.string r) := cell_blk (i := 0) hb3 rfl
        have yf := frozen_blk hb3 (i := 0)
        have y1 : W3.cell? ⟨bp, 0, none⟩ = some (.string ⟨#[c]⟩) := cell_blk (i := 0) hR3.1 rfl
        gi_wp2_with (fail)
        have hb4 := setCell_blk (i := 0) (x := .string (r.extract (i + 1) r.size)) hb3
        refine ⟨⟨pre ++ [r.extract 0 i], r.extract (i + 1) r.size, hJ _ _ _ (KeptB.setCell _ _ (by simp) _) hJ3, SpR.stb (N := fun k => k == bs) 0 hNp hNq _ _ (KeptB.setCell _ _ (by simp) _) hR3, hb4, by rw [hpc]; simp, by omega⟩, ?_⟩
        rw [leftOf_of hb4, leftOf_of hb]
        omega
      · gi_wp2_with (fail)
        refine bodyPost_ret (results_none rfl _ _ _) rfl ?_
        exact ⟨⟨_, rfl⟩, .inr ⟨_, trivial, hJx3⟩⟩

/-- strings.SplitSeq at a separator of one byte: the iterator, and the three boxes that it reads and writes -/
theorem SplitSeq_any (c : UInt8) (s : ByteArray) (w : World) :
    Calls Tryd.prog 32 #[.string s, .string ⟨#[c]⟩] w fun e w' =>
      e = .returned (.func (.func 48) #[] #[.pointer (some ⟨w.heap.size + 1, 0, none⟩), .pointer (some ⟨w.heap.size, 0, none⟩), .pointer (some ⟨w.heap.size + 2, 0, none⟩)]) ∧
      SpR c (w.heap.size + 1) (w.heap.size + 2) w' ∧ w'.heap[w.heap.size]? = some (.cells #[.string s] 9 (0, 0)) ∧ w'.heap.size = w.heap.size + 3 ∧ Below w.heap.size w w' := by
  have h1 : Calls Tryd.prog 38 #[.string s, .string ⟨#[c]⟩, .int .i64 0] w fun e w' =>
      e = .returned (.func (.func 48) #[] #[.pointer (some ⟨w.heap.size + 1, 0, none⟩), .pointer (some ⟨w.heap.size, 0, none⟩), .pointer (some ⟨w.heap.size + 2, 0, none⟩)]) ∧
      w' = ((w.alloc (.cells #[.string s] 9)).alloc (.cells #[.string ⟨#[c]⟩] 9)).alloc (.cells #[.int .i64 0] 3) := by
    go_enter Tryd.func38, Tryd.ntmps38
    go_wp2
    go_ret
    exact ⟨rfl, rfl⟩
  go_enter Tryd.func32, Tryd.ntmps32
  go_wp2_with (fail)
  refine h1.mono ?_
  rintro e w' ⟨rfl, rfl⟩
  go_wp2_with (fail)
  go_ret
  have a1 := World.alloc_heap_new w (.cells #[.string s] 9)
  have a2 := World.alloc_heap_new (w.alloc (.cells #[.string s] 9)) (.cells #[.string ⟨#[c]⟩] 9)
  have a3 := World.alloc_heap_new ((w.alloc (.cells #[.string s] 9)).alloc (.cells #[.string ⟨#[c]⟩] 9)) (.cells #[.int .i64 0] 3)
  simp only [World.size_alloc] at a2 a3
  refine ⟨rfl, ⟨(Kept.alloc 0 _ _).same _ _ a2 (.inl rfl), a3⟩, ((Kept.alloc 0 _ _).trans (Kept.alloc 0 _ _)).same _ _ a1 (.inl rfl), by simp, ?_⟩
  exact (((Below.refl w.heap.size w).alloc (Nat.le_refl _) _).alloc (by simp) _).alloc (by simp; omega) _
end Go.Proofs.YtkmnmigpnbehaaaDoor
