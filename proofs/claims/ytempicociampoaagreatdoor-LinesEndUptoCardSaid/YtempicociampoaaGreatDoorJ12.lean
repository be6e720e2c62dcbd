/- Plain laws of lines: a line that is not overfull ends at the width, or ahead of it. The walk of strings.FieldsSeq's iterator, of a text of ASCII. Long rows inside of a fence: loaded, stored, laid as a literal of one member. Ranges over a function that writes to blocks which it laid ahead of its first yield: they lie below M; what the consumer lays lies above (by gen_rangeq.py). strings.HasPrefix, and a string's iterator in any world. The walks of slices.AppendSeq and Collect, of items whose iterator keeps a list of its own. -/
import Derived.Test.YtempicociampoaaGreatDoorJ10
import Derived.Test.YtempicociampoaaGreatDoorJ0
import Derived.Test.YtempicociampoaaGreatDoorJ9
import Derived.Lib.Strings
import Derived.Test.YtempicociampoaaGreatDoorJ11
import Derived.Test.YtempicociampoaaGreatDoorJ6
import Derived.Great.BuildSlice
import Derived.Test.YtempicociampoaaGreatDoorRangeM
import Derived.Laws.RangeString
import Derived.Test.YtempicociampoaaGreatDoorJ3
namespace Go.Proofs.YtempicociampoaaGreatDoor
open Go.RowKit

section
variable {tw : ByteArray → Int}
theorem foldl_z : ∀ (m : List It) (a : Sm), (∀ x ∈ m, plain x.z ≤ 1) → (m.foldl Sm.step a).z ≤ a.z + m.length
 | [], _, _ => by simp
 | x :: m, a, h => by
  have := foldl_z m (a.step x) (fun y hy => h y (by simp [hy]))
  have h1 := h x (by simp)
  have h2 : (a.step x).z = a.z + plain x.z := rfl
  rw [List.foldl_cons, List.length_cons]
  omega
theorem Wl.z_bd {l : List It} (hl : Wl tw l) (f t : Nat) : (lineSm l f t).z ≤ l.length := by
 have hz : ∀ x ∈ l, plain x.z ≤ 1 := fun x hx => by
  rcases hl.good x hx with h | h | h | h
  ·rw [h.2.2.2.2.2]; decide
  ·rw [h.2.2.2]; decide
  ·rcases h.2.2 with ⟨-, e⟩ | ⟨-, e⟩ <;> rw [e] <;> decide
  ·rw [h.2.2]; decide
 unfold lineSm
 split
 ·have := foldl_z (mid l f t) ⟨0, 0, 0⟩ (fun x hx => hz x (List.mem_of_mem_take (List.mem_of_mem_drop hx)))
  have h1 := mid_len l f t
  unfold smOf
  dsimp only at this ⊢
  omega
 ·dsimp only; omega
/-- a line's end, of a width that counts -/
theorem Wl.end_law {l : List It} (hl : Wl tw l) (hdash : tw dash = 4) (hpw : ∀ x ∈ l, x.kind = 3 → x.w = 4) (h6 : l.length ≤ 600) {n : Int} {t : Nat} (hn : n = -1 ∨ ∃ b : Nat, n = b ∧ ∃ x, l[b]? = some x ∧ x.kind ≠ 1)
  (hft : firstL l n < t) (h1 : t ≤ l.length) (h2 : ∀ x, l[t]? = some x → x.kind ≠ 1) {width wd tol : Int} (hwd : 0 ≤ wd ∧ wd ≤ 10000) (hpl : plain width = wd) {last : Bool} (hla : last = decide (t = l.length)) :
  ((liS l wd tol n t).over = true → wd < endW tw (setL l n t width last)) ∧ ((liS l wd tol n t).over = false → endW tw (setL l n t width last) ≤ wd) ∧
  ((liS l wd tol n t).over = false → t < l.length → (lineSm l (firstL l n) t).y ≠ 0 → endW tw (setL l n t width last) = wd) ∧ setL l n t width last ≠ [] := by
 obtain ⟨f1, f2⟩ := hl.fst hn
 have hz := hl.z_bd (firstL l n) t
 have hup : upto (t : Int) l.length = t := by unfold upto; omega
 have hs : setL l n t width last = allPcs (needOf width last (lineSm l (firstL l n) t)) (lineSm l (firstL l n) t) l (firstL l n) t := by
  unfold setL; rw [hup, if_pos hft]
 obtain ⟨e1, e2⟩ := hl.ends hdash hpw (f1 ▸ f2) hft h1 h2 (needOf width last (lineSm l (firstL l n) t))
 have hov := fun h => over_ends (l := l) (wd := wd) (tol := tol) (n := n) (t := t) hwd (by omega) h
 have hfi := fun h => fits_ends (l := l) (wd := wd) (tol := tol) (n := n) (t := t) (by omega) h
 have hz0 := (lineSm_bd l (firstL l n) t).2.2.1
 rw [hs, e1]
 have hd : needOf width last (lineSm l (firstL l n) t) = if last = true then min (wd - (lineSm l (firstL l n) t).w) 0 else wd - (lineSm l (firstL l n) t).w := by unfold needOf; rw [hpl]
 generalize needOf width last (lineSm l (firstL l n) t) = d at *
 generalize lineSm l (firstL l n) t = s at *
 refine ⟨fun h => ?_, fun h => ?_, fun h ht hy => ?_, e2⟩
 ·have := hov h
  split at hd <;> (rw [if_neg (by omega)]; omega)
 ·have := hfi h
  split at hd
  ·by_cases h0 : 0 ≤ d
   ·rw [if_pos h0]; split <;> omega
   ·rw [if_neg h0]; omega
  ·by_cases h0 : 0 ≤ d
   ·rw [if_pos h0]; split <;> omega
   ·rw [if_neg h0]; omega
 ·have := hfi h
  rw [hla, decide_eq_false (by omega)] at hd
  rw [if_neg (by simp)] at hd
  by_cases h0 : 0 ≤ d
  ·rw [if_pos h0, if_neg hy]; omega
  ·rw [if_neg h0]; omega
end
end Go.Proofs.YtempicociampoaaGreatDoor
namespace Go.Proofs.YtempicociampoaaGreatDoor
open Go.RowKit Go.Shelf
attribute [local go_sem] Oper.semAt_some

/-- the library's table of blanks -/
def Asp (w : World) : Prop := ∀ c, c < 256 → w.cell? ⟨3, c, none⟩ = some (.int .u8 (if c = 9 ∨ c = 10 ∨ c = 11 ∨ c = 12 ∨ c = 13 ∨ c = 32 then 1 else 0))
theorem Asp.kept {B : Nat} {w w' : World} (h : Asp w) (hk : Kept B w w') : Asp w' := fun c hc => hk.cell (h c hc)
theorem Asp.below {w w' : World} (h : Asp w) (hb : Below w.heap.size w w') : Asp w' := h.kept (Kept.of_below hb 0)

/-- the fields that lie whole ahead of place i, and where one has begun -/
def fSt (s : List UInt8) : Nat → List (List UInt8) × Int
 | 0 => ([], -1)
 | i + 1 =>
  let p := fSt s i
  if s.getD i 0 = 32 then (if 0 ≤ p.2 then (p.1 ++ [(s.drop p.2.toNat).take (i - p.2.toNat)], -1) else (p.1, -1)) else (if p.2 < 0 then (p.1, (i : Int)) else (p.1, p.2))
/-- the constant of the patterns -/
def allS : List UInt8 := [46, 114, 101, 49, 32, 46, 117, 110, 49, 32, 49, 116, 105, 111, 110, 32, 50, 115, 115, 50, 32, 49, 110, 97, 32, 49, 110, 101, 32, 110, 49, 116, 32, 116, 50, 116, 32, 49, 109, 97, 32, 108, 49, 108, 32, 50, 105, 110, 103, 32, 49, 100, 101, 32, 101, 114, 49, 32, 49, 108, 121, 46, 32, 49, 99, 97, 32, 49, 99, 111, 32, 111, 49, 114, 32, 49, 112, 97]
def allB : ByteArray := ⟨allS.toArray⟩
theorem allB_size : allB.size = 78 := by decide
theorem f_end : (fSt allS 78).1 ++ [(allS.drop (fSt allS 78).2.toNat).take (78 - (fSt allS 78).2.toNat)] = patTexts ∧ 0 ≤ (fSt allS 78).2 := by decide +kernel
theorem f_bd : ∀ i, i ≤ 78 → -1 ≤ (fSt allS i).2 ∧ (fSt allS i).2 < i ∧ (fSt allS i).1.isPrefixOf patTexts = true := by
 have h : ∀ i, i < 79 → -1 ≤ (fSt allS i).2 ∧ (fSt allS i).2 < i ∧ (fSt allS i).1.isPrefixOf patTexts = true := by decide +kernel
 intro i hi; exact h i (by omega)
theorem f_ascii : ∀ i, i < 78 → (allS.getD i 0).toNat < 128 ∧ ((allS.getD i 0).toNat = 32 ∨ 32 < (allS.getD i 0).toNat) := by decide +kernel

def fEnc (x : List UInt8) : Array Value := #[.string ⟨x.toArray⟩]
/-- what the iterator reads: the text, and the table -/
def FsR (S : ByteArray) (b : Nat) (W : World) : Prop := W.heap[b]? = some (.cells #[.string S] 9 (0, 0)) ∧ Asp W
theorem FsR.st {S : ByteArray} {b : Nat} (B : Nat) : St B (FsR S b) := fun _ _ hk ⟨h1, h2⟩ => ⟨hk.same _ _ h1 (.inl rfl), h2.kept hk⟩

set_option maxRecDepth 100000 in
set_option maxHeartbeats 4000000 in
theorem fields1_seq (S : ByteArray) (hS : S = allB) (b : Nat) (N : TypeId → Bool) :
  SeqX Tryz.prog N 134 #[.pointer (some ⟨b, 0, none⟩)] fEnc (FsR S b) (fun pre x _ => pre ++ [x] <+: patTexts) (fun xs _ => xs = patTexts) (fun _ _ => True) := by
 intro L J Jx W hJ hJx hY h0 hR0
 have hc := cell_blk (i := 0) hR0.1 rfl
 have hz : S.size = 78 := by rw [hS]; exact allB_size
 have hdat : S.data.toList = allS := by rw [hS]; rfl
 have hex : ∀ a k, S.extract a k = ⟨((allS.drop a).take (k - a)).toArray⟩ := fun a k => by rw [Lib.extract_eq, hdat]
 have hch : ∀ k (h : k < S.size), S[k] = allS.getD k 0 := fun k h => by
  have h1 : S.data.toList[k]? = some S[k] := by rw [List.getElem?_eq_getElem (by rw [Array.length_toList]; exact h)]; rfl
  rw [hdat] at h1
  rw [List.getD_eq_getElem?_getD, h1]; rfl
 replace hS := hid hS
 replace hdat := hid hdat
 replace hex := hid hex
 replace hch := hid hch
 refine calls_of_wpIn Tryz.func134 rfl ?_
 simp only [Tryz.ntmps134, List.size_toArray, List.length_cons, List.length_nil, Nat.reduceAdd, Nat.reduceSub, Array.replicate_succ, Array.replicate_zero, List.push_toArray, List.append_toArray, List.nil_append, List.cons_append]
 gi_wp2
 gi_loopw [3, 4] (fun a i wr => ∃ k : Nat, k ≤ 78 ∧ i = .int .i64 k ∧ a = .int .i64 (fSt allS k).2 ∧ J (fSt allS k).1 wr ∧ FsR S b wr) (fun _ i _ => 78 - (RowKit.intOf i).toNat)
 case atStart => exact ⟨0, by omega, rfl, rfl, h0, hR0⟩
 case round =>
  obtain ⟨k, hk, rfl, rfl, hJs, hRs⟩ := hrel
  have hRs' := hRs
  obtain ⟨w1, w2⟩ := hRs
  have x1 := cell_blk (i := 0) w1 rfl
  obtain ⟨g1, g2, g3⟩ := f_bd k hk
  by_cases hlt : k < 78
  ·have hks : k < S.size := by omega
   obtain ⟨c1, c2⟩ := f_ascii k hlt
   have hcc := hch.out k hks
   have hst : fSt allS (k + 1) = if allS.getD k 0 = 32 then (if 0 ≤ (fSt allS k).2 then ((fSt allS k).1 ++ [(allS.drop (fSt allS k).2.toNat).take (k - (fSt allS k).2.toNat)], -1) else ((fSt allS k).1, -1)) else (if (fSt allS k).2 < 0 then ((fSt allS k).1, (k : Int)) else ((fSt allS k).1, (fSt allS k).2)) := rfl
   have hpre := (f_bd (k + 1) (by omega)).2.2
   obtain ⟨c, hcd⟩ : ∃ c, S[k]'hks = c := ⟨_, rfl⟩
   rw [hcd] at hcc
   rw [← hcc] at c1 c2 hst
   replace hcc := hid hcc
   have hasp := w2 c.toNat c.toNat_lt
   generalize hF : fSt allS (k + 1) = F at *
   generalize fSt allS k = G at *
   obtain ⟨G1, G2⟩ := G
   dsimp only at *
   replace hF := hid hF
   replace hst := hid hst
   by_cases h32 : c = 32
   ·subst h32
    have hst2 := hst.out
    rw [if_pos rfl] at hst2
    have hasp' : wr.cell? ⟨3, 32, none⟩ = some (.int .u8 1) := hasp
    clear hasp
    by_cases hG : 0 ≤ G2
    ·rw [if_pos hG] at hst2
     subst hst2
     obtain ⟨g, rfl⟩ : ∃ g : Nat, G2 = g := ⟨G2.toNat, by omega⟩
     have hadm : G1 ++ [(allS.drop g).take (k - g)] <+: patTexts := List.isPrefixOf_iff_prefix.1 hpre
     obtain ⟨fn, tmps, assign, body, hy, hR⟩ := hY G1 ((allS.drop g).take (k - g)) wr hJs hRs' hadm
     dsimp only [fEnc] at hy
     rw [← hex.out g k] at hy
     replace hadm := hid hadm
     clear hpre
     have hF2 := hid (show fSt allS (k + 1) = (G1 ++ [(allS.drop g).take (k - g)], -1) from hF.out)
     clear hF hst
     gi_wp2
     refine ⟨rfl, hR.mono ?_⟩
     rintro e W3 (⟨rfl, hJ3, hR3, -⟩ | ⟨rfl, hJx3⟩)
     ·have hR3' := hR3
      obtain ⟨y1, y2⟩ := hR3
      have x3 := cell_blk (i := 0) y1 rfl
      gi_wp2
      refine ⟨⟨k + 1, by omega, by go_num, by rw [hF2.out], by rw [hF2.out]; exact hJ3, hR3'⟩, by simp [RowKit.intOf]; omega⟩
     ·gi_wp2
      refine bodyPost_ret (results_none rfl _ _ _) rfl ?_
      exact ⟨⟨_, rfl⟩, .inr ⟨_, trivial, hJx3⟩⟩
    ·rw [if_neg hG] at hst2
     subst hst2
     obtain rfl : G2 = -1 := by omega
     gi_wp2
     refine ⟨⟨k + 1, by omega, by go_num, by rw [hF.out], by rw [hF.out]; exact hJs, hRs'⟩, by simp [RowKit.intOf]; omega⟩
   ·have hn : c.toNat ≠ 32 := fun h => h32 (by apply UInt8.toNat_inj.1; rw [h]; rfl)
    have hgt : 32 < c.toNat := by omega
    rw [if_neg (by omega)] at hasp
    have hst2 := hst.out
    rw [if_neg h32] at hst2
    have hci : (c.toNat : Int) < 128 := by omega
    by_cases hG : G2 < 0
    ·rw [if_pos hG] at hst2
     subst hst2
     gi_wp2
     refine ⟨⟨k + 1, by omega, by go_num, by rw [hF.out], by rw [hF.out]; exact hJs, hRs'⟩, by simp [RowKit.intOf]; omega⟩
    ·rw [if_neg hG] at hst2
     subst hst2
     gi_wp2
     refine ⟨⟨k + 1, by omega, by go_num, by rw [hF.out], by rw [hF.out]; exact hJs, hRs'⟩, by simp [RowKit.intOf]; omega⟩
  ·obtain rfl : k = 78 := by omega
   obtain ⟨f1, f2⟩ := f_end
   have hpre := List.prefix_refl patTexts
   generalize fSt allS 78 = G at *
   obtain ⟨G1, G2⟩ := G
   dsimp only at *
   obtain ⟨g, rfl⟩ : ∃ g : Nat, G2 = g := ⟨G2.toNat, by omega⟩
   have f1' : G1 ++ [(allS.drop g).take (78 - g)] = patTexts := f1
   obtain ⟨fn, tmps, assign, body, hy, hR⟩ := hY G1 ((allS.drop g).take (78 - g)) wr hJs hRs' (by rw [f1']; exact hpre)
   dsimp only [fEnc] at hy
   rw [← hex.out g 78] at hy
   have hJe := hid f1'
   clear f1 f1' hpre g3
   gi_wp2
   refine ⟨rfl, hR.mono ?_⟩
   rintro e W3 (⟨rfl, hJ3, hR3, -⟩ | ⟨rfl, hJx3⟩)
   ·gi_wp2
    go_end0
    exact ⟨⟨_, rfl⟩, .inl ⟨_, rfl, by rw [hJe.out] at hJ3; exact hJ3, hR3⟩⟩
   ·gi_wp2
    go_end0
    exact ⟨⟨_, rfl⟩, .inr ⟨_, trivial, hJx3⟩⟩
end Go.Proofs.YtempicociampoaaGreatDoor
namespace Go.Proofs.YtempicociampoaaGreatDoor
open Go.RowKit

section
variable {F : Fence} {n : Nat} {P : Program} {ops : Array Oper} {rest : List Oper} {o : Oper} {a : Act} {w : World} {K : Act → World → Prop} {Q : Exit → Act → World → Prop}
theorem wpIn_skip (hnd : ∀ c, o.op ≠ .defer c) (hab : o.about P w a.eval = none) (w' : World) (hr : (execOp a.eval o).run P w = .ok .skip w') (h : K (a.put o.dst undef) w') : o.wpIn F n P a w K Q := by
 unfold Oper.wpIn
 refine ⟨fun f hf => (by rw [hab] at hf; cases hf), ?_⟩
 rw [Oper.semAt_plain F _ _ hnd, hr]
 exact h
theorem wpIn_store_mid (ty : TypeId) (x y : Operand) (ho : o.op = .store ty x y) (b i : Nat) (cells : Array Value) (hx : a.eval x = .pointer (some ⟨b, i, none⟩)) (hy : a.eval y = .agg cells)
  (ht : w.there b i cells.size) (hi : (P.info? ty).map (·.size) = some cells.size) (h1 : cells.all (·.oneCell') = true) (h : K (a.put o.dst undef) (w.setCells b i cells.toList)) : o.wpIn F n P a w K Q :=
 wpIn_skip (by rw [ho]; intro c hc; cases hc) (by simp [Oper.about, ho]) _ (by
  unfold execOp
  simp only [ho, hx, hy, Instr.storeAt, Instr.sureAddr, Sem.run_bind, Sem.run_pure, Result.andThen_ok, run_storeVar_mid w b i ty cells ht hi h1]) h
end
end Go.Proofs.YtempicociampoaaGreatDoor
namespace Go.Proofs.YtempicociampoaaGreatDoor
open Go.RowKit

def inM (B M : Nat) : Nat → Bool := fun k => decide (B ≤ k) && decide (k < M)
/-- one box of the iterator's has been written -/
theorem KeptB.box {b B M : Nat} {B' : Nat} {A C : World} (h : KeptB (fun k => k == b) B' A C) (hB : B ≤ B') (h1 : B ≤ b) (h2 : b < M) : KeptB (inM B M) B A C :=
 ⟨h.os, h.tape, h.output, h.size, fun k o hk hn ho => h.same k o hk (by simp [inM] at hn ⊢; omega) (ho.imp id (fun h => by omega))⟩
section
variable {P : Program} {α : Type} {g : Operand} {ps : Array Tmp} {assign body : Code} {Q : Exit → Act → World → Prop} {a : Act} {w : World} {gf : Nat} {lb : Array Value}
 {encs : α → Array Value} {Adm : List α → α → World → Prop} {S Sp : List α → World → Prop} {R : World → Prop}
end
end Go.Proofs.YtempicociampoaaGreatDoor
namespace Go.Proofs.YtempicociampoaaGreatDoor
open Go.RowKit Go.Shelf
attribute [local go_sem] Oper.semAt_some

theorem next_ascii {P : Program} {w : World} {L : Nat} {s : ByteArray} {pos : Nat} (hL : w.heap[L]? = some (.stringIter s pos)) (ty : TypeId) (h : pos < s.size) (ha : (s[pos]'h).toNat < 128) :
  (Instr.next (.pointer (some ⟨L, 0, none⟩)) true ty).run P w = .ok (.tuple #[.bool true, .int .i64 pos, .int .i32 (s[pos]'h).toNat]) (w.putObj L (.stringIter s (pos + 1))) := by
 simp only [Instr.next, getObj, setObj, Sem.run_bind, Sem.run, hL, Result.andThen, h, if_true, decode_ascii s pos h ha]
 simp [goInt, World.putObj]
theorem next_end {P : Program} {w : World} {L : Nat} {s : ByteArray} {pos : Nat} (hL : w.heap[L]? = some (.stringIter s pos)) (ty : TypeId) (h : ¬ pos < s.size) :
  (Instr.next (.pointer (some ⟨L, 0, none⟩)) true ty).run P w = .ok (.tuple #[.bool false]) w := by
 simp [Instr.next, getObj, Sem.run, hL, h]

theorem prefix_bytes (s t : ByteArray) (_h : t.size ≤ s.size) : ((s.extract 0 t.size).toList == t.toList) = t.data.toList.isPrefixOf s.data.toList := by
 rw [Bool.eq_iff_iff, List.isPrefixOf_iff_prefix, beq_iff_eq, List.prefix_iff_eq_take, ByteArray.toList_eq, ByteArray.toList_eq]
 have e1 : (s.extract 0 t.size).data.toList = s.data.toList.take t.data.toList.length := by
  simp [ByteArray.data_extract, Array.toList_extract]
 rw [e1]
 exact eq_comm

theorem HasPrefix_any (s t : ByteArray) (w : World) (hs : s.size ≤ 1000000) (ht : t.size ≤ 1000000) :
  Calls Tryz.prog 128 #[.string s, .string t] w fun e w' => e = .returned (.bool (t.data.toList.isPrefixOf s.data.toList)) ∧ w' = w := by
 have hp := prefix_bytes s t
 have hsm : s.size < t.size → t.data.toList.isPrefixOf s.data.toList = false := by
  intro h
  rw [Bool.eq_false_iff]
  intro h2
  have h3 := (List.isPrefixOf_iff_prefix.1 h2).length_le
  have h4 : t.data.toList.length = t.size := by rw [Array.length_toList]; rfl
  have h5 : s.data.toList.length = s.size := by rw [Array.length_toList]; rfl
  omega
 generalize t.data.toList.isPrefixOf s.data.toList = b at *
 have hc : ∀ W, Calls Tryz.prog 133 #[.string s, .string t] W fun e w' => e = .returned (.bool b) ∧ w' = W := by
  intro W
  replace hp := hid hp
  replace hsm := hid hsm
  go_enter Tryz.func133, Tryz.ntmps133
  have hs' : (s.size : Int) ≤ 1000000 := by omega
  have ht' : (t.size : Int) ≤ 1000000 := by omega
  by_cases h : (t.size : Int) ≤ s.size
  ·go_wp2
   go_ret
   exact ⟨by rw [hp.out (by omega)]; rfl, rfl⟩
  ·go_wp2
   go_ret
   exact ⟨by rw [hsm.out (by omega)]; rfl, rfl⟩
 replace hc := hid hc
 clear hp hsm
 go_enter Tryz.func128, Tryz.ntmps128
 go_wp2_with (fail)
 refine (hc.out _).mono ?_
 rintro e w' ⟨rfl, rfl⟩
 go_wp2
 go_ret
 exact ⟨rfl, rfl⟩
end Go.Proofs.YtempicociampoaaGreatDoor
namespace Go.Proofs.YtempicociampoaaGreatDoor
open Go.RowKit Go.Shelf
attribute [local go_sem] Oper.semAt_some
theorem Tryz.infoIt : (Tryz.prog.info? 49).map (fun i => (i.zero, i.size, i.bytes)) = some (some (.agg #[.int .i64 0, .int .i64 0, .int .i64 0, .int .i64 0, .int .i64 0, .string ⟨#[]⟩]), 6, 56) := by kernel_rfl
def itEnc (x : It) : Array Value := #[.agg (encIt x).toArray]

theorem owns_downM {W : World} {b b' : Nat} {e : TypeId} {size : Nat} {v : Value} {n : Nat} {xs : List Value} (hb : b' ≤ b) (h : W.ownsRow b e size v n xs) : W.ownsRow b' e size v n xs := by
 obtain ⟨h1, h2⟩ := h
 refine ⟨h1, ?_⟩
 rcases h2 with h2 | ⟨g, cap, cur, hv, hg, r⟩
 ·exact .inl h2
 ·exact .inr ⟨g, cap, cur, hv, Nat.le_trans hb hg, r⟩

set_option maxRecDepth 100000 in
set_option maxHeartbeats 2000000 in
theorem AppendSeqM_any (w : World) (gf : Nat) (lb : Array Value) (R : World → Prop) (L : List It) (hL : L.length ≤ 100000)
  (eg : ∀ args w, (callFunc gf args).run Tryz.prog w = .ok (.enter gf args) w) (hR : ∀ B, St B R) (hRB : ∀ W, Below w.heap.size w W → R W)
  (hseq : SeqM Tryz.prog gf lb itEnc R (fun pre x _ => pre ++ [x] <+: L) (fun xs _ => xs = L) (fun _ _ => True)) :
  Calls Tryz.prog 80 #[.slice none 0 0, .func (.func gf) #[] lb] w fun e w' => ∃ v, e = .returned v ∧ Sl w' 6 encIt v L ∧ w'.ownsRow w.heap.size 49 6 v L.length (L.flatMap encIt) ∧ Below w.heap.size w w' := by
 obtain ⟨i0, hi, hz0, hz1, hz2⟩ := info_parts Tryz.infoIt
 refine calls_of_marks Tryz.func80 rfl ?_
 simp only [Tryz.ntmps80, List.size_toArray, List.length_cons, List.length_nil, Nat.reduceAdd, Nat.reduceSub, Array.replicate_succ, Array.replicate_zero, List.push_toArray, List.append_toArray, List.nil_append, List.cons_append]
 gi_wp2_with (fail)
 have bO := Boxed.new w 40 (.slice none 0 0)
 have hB0 : Below w.heap.size w (w.alloc (.cells #[.slice none 0 0] 40)) := (Below.refl _ w).alloc (Nat.le_refl _) _
 refine range_boxM rfl eg hseq (fun _ => rfl)
  (fun M pre W => (∃ v, Boxed W w.heap.size 40 v ∧ W.ownsRow M 49 6 v pre.length (pre.flatMap encIt)) ∧ M ≤ W.heap.size ∧ w.heap.size ≤ M ∧ w.heap.size + 1 ≤ W.heap.size ∧ Below w.heap.size w W)
  (fun W => Boxed W w.heap.size 40 (.slice none 0 0) ∧ w.heap.size + 1 ≤ W.heap.size ∧ Below w.heap.size w W)
  (fun _ _ _ => False) ?hI ?hI0 ?hI1 (fun _ _ _ _ _ h => h) hR (fun _ _ => St.pure _) (fun _ => St.pure _) (fun _ => St.pure _) ?hsz ?h0 (hRB _ hB0)
  ?mk (fun x => (encIt x).toArray) 49 ?assign ?body ?done ?stop
 case assign =>
  intro l x j W K hj hK
  dsimp only [itEnc, encIt] at hK ⊢
  gi_wp2
  exact hK
 case hI =>
  rintro M s A C hk ⟨⟨v, h1, h2⟩, h5, h6, h3, h4⟩
  exact ⟨⟨v, hk.same _ _ h1 (.inl rfl), hk.owns h2⟩, Nat.le_trans h5 hk.size, h6, Nat.le_trans h3 hk.size, hk.below (by simp) (Nat.le_refl _) h4⟩
 case hI0 =>
  rintro A C hk ⟨h1, h3, h4⟩
  exact ⟨hk.same _ _ h1 (.inl rfl), Nat.le_trans h3 hk.size, hk.below (by simp) (Nat.le_refl _) h4⟩
 case hI1 =>
  rintro M W ⟨h1, h3, h4⟩ hM0 hM
  exact ⟨⟨_, h1, World.ownsRow_nil _ _ _ _⟩, hM, by simp at hM0; omega, h3, h4⟩
 case hsz => exact fun _ _ _ h => by have := h.2.2.2.1; simp; omega
 case h0 => exact ⟨bO, by simp, hB0⟩
 case body =>
  rintro l M pre x j W hl2 hM1 _ ⟨⟨v, hv, hrow⟩, hMs, -, hsz, hB⟩ hR' hadm hj hx
  have hpl : pre.length + 1 ≤ 100000 := by
   obtain ⟨t, ht⟩ := hadm
   have := congrArg List.length ht
   simp at this; omega
  have hMw : w.heap.size + 1 ≤ M := by simpa using hM1
  have hc := hv.cell
  dsimp only [encIt] at hx ⊢
  have x1 := cell_blk (i := 0) hx rfl
  have x2 := cell_blk (i := 1) hx rfl
  have x3 := cell_blk (i := 2) hx rfl
  have x4 := cell_blk (i := 3) hx rfl
  have x5 := cell_blk (i := 4) hx rfl
  have x6 := cell_blk (i := 5) hx rfl
  clear hadm hL hM1
  gi_wp2_with (gi_at_builtin; go_must (refine wpListIn_append_own _ rfl _ _ 40 rfl M 49 i0 (.agg #[.int .i64 0, .int .i64 0, .int .i64 0, .int .i64 0, .int .i64 0, .string ⟨#[]⟩]) 6 56 Tryz.underlying40 hi hz0 hz1 hz2 rfl (by decide) _ _ _ rfl (hrow.alloc _) ⟨W.heap.size, 0, none⟩ 1 1 [.int .i64 x.kind, .int .i64 x.w, .int .i64 x.y, .int .i64 x.z, .int .i64 x.cost, .string x.text] rfl rfl ?_ (by simp [Value.oneCell']) (by unfold maxLen; omega) (by omega) (by simp; omega) ?_; rotate_left; intro v' w1 hown' hgrow _; obtain ⟨g', cap', rfl⟩ := ownsRow_succ hown'; obtain ⟨hv1, hv2, hr2, hk2, hb2⟩ := hv.appended (by decide) (owns_downM (b' := w.heap.size) (by omega) hrow) hB.size (Nat.le_refl _) (owns_downM (b' := w.heap.size) (by omega) hown') hgrow; have hkx : KeepsM M (w.heap.size + 1) W w1 := (KeepsM.alloc _ _ _ _).trans (KeepsM.grown _ (hrow.alloc _) hgrow); have hc1 := hv1.cell; have hf1 := hv1.frozen))
  ·have hB2 := hB.trans hb2
   have hg2 : M ≤ (w1.setCell ⟨w.heap.size, 0, none⟩ (.slice (some ⟨g', 0, none⟩) (pre.length + 1) cap')).heap.size := Nat.le_trans hMs hb2.size
   refine ⟨(hkx.trans (KeepsM.setCell _ _ hv1 (.inl (by omega)) _)).mono (by simp), hRB _ hB2, ⟨_, hv2, ?_⟩, hg2, by omega, Nat.le_trans hsz hb2.size, hB2⟩
   have hne : w.heap.size < M := by omega
   obtain ⟨o1, o2⟩ := hown'
   refine ⟨by simpa [encIt] using hr2.1, ?_⟩
   rcases o2 with ⟨e0, e1⟩ | ⟨g, cap, cur, e0, hg, hh, r⟩
   ·cases e0
   ·cases e0
    refine .inr ⟨g', cap', cur, by simp, hg, (setCell_off (by omega)).trans hh, ?_⟩
    simpa [encIt] using r
  ·exact cells_new W _ _
 case done =>
  rintro D M ys W hD rfl ⟨⟨v, hv, hrow⟩, hMs, hMb, hsz, hB⟩ hR' hK
  have hc := hv.cell
  have hrow2 := owns_downM hMb hrow
  have hsl := sl_of_owns (enc := encIt) (fun _ _ => rfl) hrow
  gi_wp2
  refine leave1 hK (fun _ _ => results_tmp rfl _ _ _) ⟨_, rfl, ?_, ?_, ?_⟩
  ·exact (Kept.putObj (B := 0) _ (Nat.zero_le _) hK rfl).sl hsl
  ·exact (Kept.putObj (B := 0) _ (Nat.zero_le _) hK rfl).owns hrow2
  ·exact (Kept.putObj (B := w.heap.size) (.deferred none) (by simp at hD; omega) hK rfl).below (Nat.le_refl _) (Nat.le_refl _) hB
 case stop =>
  rintro D c pre W _ _ h _
  exact h.elim

set_option maxRecDepth 100000 in
set_option maxHeartbeats 2000000 in
theorem CollectM_any (w : World) (gf : Nat) (lb : Array Value) (R : World → Prop) (L : List It) (hL : L.length ≤ 100000)
  (eg : ∀ args w, (callFunc gf args).run Tryz.prog w = .ok (.enter gf args) w) (hR : ∀ B, St B R) (hRB : ∀ W, Below w.heap.size w W → R W)
  (hseq : SeqM Tryz.prog gf lb itEnc R (fun pre x _ => pre ++ [x] <+: L) (fun xs _ => xs = L) (fun _ _ => True)) :
  Calls Tryz.prog 50 #[.func (.func gf) #[] lb] w fun e w' => ∃ v, e = .returned v ∧ Sl w' 6 encIt v L ∧ w'.ownsRow w.heap.size 49 6 v L.length (L.flatMap encIt) ∧ Below w.heap.size w w' := by
 have hc := hid (AppendSeqM_any w gf lb R L hL eg hR hRB hseq)
 clear hseq eg
 go_enter Tryz.func50, Tryz.ntmps50
 go_wp2_with (fail)
 refine hc.out.mono ?_
 rintro e w' ⟨v, rfl, h1, h2, h3⟩
 go_wp2
 go_ret
 exact ⟨_, rfl, h1, h2, h3⟩
end Go.Proofs.YtempicociampoaaGreatDoor
