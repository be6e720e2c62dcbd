/- The walk of strings.FieldsSeq's iterator, of a text of ASCII. -/
import Derived.Test.YtjkfefjfmocekaaDoorHypP
import Derived.Test.YtjkfefjfmocekaaDoorRangeY
import Derived.Test.YtjkfefjfmocekaaDoorSetI
import Derived.Lib.Strings
namespace Go.Proofs.YtjkfefjfmocekaaDoor
open Go.RowKit Go.Shelf
attribute [local go_sem] Oper.semAt_some

/-- the library's table of blanks -/
def Asp (w : World) : Prop := ∀ c, c < 256 → w.cell? ⟨3, c, none⟩ = some (.int .u8 (if c = 9 ∨ c = 10 ∨ c = 11 ∨ c = 12 ∨ c = 13 ∨ c = 32 then 1 else 0))
theorem Asp.kept {B : Nat} {w w' : World} (h : Asp w) (hk : Kept B w w') : Asp w' := fun c hc => hk.cell (h c hc)
theorem Asp.below {w w' : World} (h : Asp w) (hb : Below w.heap.size w w') : Asp w' := h.kept (Kept.of_below hb 0)

/-- the fields that lie whole ahead of place i, and where one has begun -/
def fSt (s : List UInt8) : Nat → List (List UInt8) × Int
  | 0 => ([], -1)
  | i + 1 =>
    let p := fSt s i
    if s.getD i 0 = 32 then (if 0 ≤ p.2 then (p.1 ++ [(s.drop p.2.toNat).take (i - p.2.toNat)], -1) else (p.1, -1)) else (if p.2 < 0 then (p.1, (i : Int)) else (p.1, p.2))
/-- the constant of the patterns -/
def allS : List UInt8 := [46, 114, 101, 49, 32, 46, 117, 110, 49, 32, 49, 116, 105, 111, 110, 32, 50, 115, 115, 50, 32, 49, 110, 97, 32, 49, 110, 101, 32, 110, 49, 116, 32, 116, 50, 116, 32, 49, 109, 97, 32, 108, 49, 108, 32, 50, 105, 110, 103, 32, 49, 100, 101, 32, 101, 114, 49, 32, 49, 108, 121, 46, 32, 49, 99, 97, 32, 49, 99, 111, 32, 111, 49, 114, 32, 49, 112, 97]
def allB : ByteArray := ⟨allS.toArray⟩
theorem allB_size : allB.size = 78 := by decide
theorem f_end : (fSt allS 78).1 ++ [(allS.drop (fSt allS 78).2.toNat).take (78 - (fSt allS 78).2.toNat)] = patTexts ∧ 0 ≤ (fSt allS 78).2 := by decide +kernel
theorem f_bd : ∀ i, i ≤ 78 → -1 ≤ (fSt allS i).2 ∧ (fSt allS i).2 < i ∧ (fSt allS i).1.isPrefixOf patTexts = true := by
  have h : ∀ i, i < 79 → -1 ≤ (fSt allS i).2 ∧ (fSt allS i).2 < i ∧ (fSt allS i).1.isPrefixOf patTexts = true := by decide +kernel
  intro i hi; exact h i (by omega)
theorem f_ascii : ∀ i, i < 78 → (allS.getD i 0).toNat < 128 ∧ ((allS.getD i 0).toNat = 32 ∨ 32 < (allS.getD i 0).toNat) := by decide +kernel

def fEnc (x : List UInt8) : Array Value := #[.string ⟨x.toArray⟩]
/-- what the iterator reads: the text, and the table -/
def FsR (S : ByteArray) (b : Nat) (W : World) : Prop := W.heap[b]? = some (.cells #[.string S] 9 (0, 0)) ∧ Asp W
theorem FsR.st {S : ByteArray} {b : Nat} (B : Nat) : St B (FsR S b) := fun _ _ hk ⟨h1, h2⟩ => ⟨hk.same _ _ h1 (.inl rfl), h2.kept hk⟩

set_option maxRecDepth 100000 in
set_option maxHeartbeats 4000000 in
theorem fields1_seq (S : ByteArray) (hS : S = allB) (b : Nat) (N : TypeId → Bool) :
    SeqX Tryd.prog N 48 #[.pointer (some ⟨b, 0, none⟩)] fEnc (FsR S b) (fun pre x _ => pre ++ [x] <+: patTexts) (fun xs _ => xs = patTexts) (fun _ _ => True) := by
  intro L J Jx W hJ hJx hY h0 hR0
  have hc := cell_blk (i := 0) hR0.1 rfl
  have hz : S.size = 78 := by rw [hS]; exact allB_size
  have hdat : S.data.toList = allS := by rw [hS]; rfl
  have hex : ∀ a k, S.extract a k = ⟨((allS.drop a).take (k - a)).toArray⟩ := fun a k => by rw [Lib.extract_eq, hdat]
  have hch : ∀ k (h : k < S.size), S[k] = allS.getD k 0 := fun k h => by
    have h1 : S.data.toList[k]? = some S[k] := by rw [List.getElem?_eq_getElem (by rw [Array.length_toList]; exact h)]; rfl
    rw [hdat] at h1
    rw [List.getD_eq_getElem?_getD, h1]; rfl
  replace hS := hid hS
  replace hdat := hid hdat
  replace hex := hid hex
  replace hch := hid hch
  refine calls_of_wpIn Tryd.func48 rfl ?_
  simp only [Tryd.ntmps48, List.size_toArray, List.length_cons, List.length_nil, Nat.reduceAdd, Nat.reduceSub, Array.replicate_succ, Array.replicate_zero, List.push_toArray, List.append_toArray, List.nil_append, List.cons_append]
  gi_wp2
  gi_loopw [3, 4] (fun a i wr => ∃ k : Nat, k ≤ 78 ∧ i = .int .i64 k ∧ a = .int .i64 (fSt allS k).2 ∧ J (fSt allS k).1 wr ∧ FsR S b wr) (fun _ i _ => 78 - (RowKit.intOf i).toNat)
  case atStart => exact ⟨0, by omega, rfl, rfl, h0, hR0⟩
  case round =>
    obtain ⟨k, hk, rfl, rfl, hJs, hRs⟩ := hrel
    have hRs' := hRs
    obtain ⟨w1, w2⟩ := hRs
    have x1 := cell_blk (i := 0) w1 rfl
    obtain ⟨g1, g2, g3⟩ := f_bd k hk
    by_cases hlt : k < 78
    · have hks : k < S.size := by omega
      obtain ⟨c1, c2⟩ := f_ascii k hlt
      have hcc := hch.out k hks
      have hst : fSt allS (k + 1) = if allS.getD k 0 = 32 then (if 0 ≤ (fSt allS k).2 then ((fSt allS k).1 ++ [(allS.drop (fSt allS k).2.toNat).take (k - (fSt allS k).2.toNat)], -1) else ((fSt allS k).1, -1)) else (if (fSt allS k).2 < 0 then ((fSt allS k).1, (k : Int)) else ((fSt allS k).1, (fSt allS k).2)) := rfl
      have hpre := (f_bd (k + 1) (by omega)).2.2
      obtain ⟨c, hcd⟩ : ∃ c, S[k]'hks = c := ⟨_, rfl⟩
      rw [hcd] at hcc
      rw [← hcc] at c1 c2 hst
      replace hcc := hid hcc
      have hasp := w2 c.toNat c.toNat_lt
      generalize hF : fSt allS (k + 1) = F at *
      generalize fSt allS k = G at *
      obtain ⟨G1, G2⟩ := G
      dsimp only at *
      replace hF := hid hF
      replace hst := hid hst
      by_cases h32 : c = 32
      · subst h32
        have hst2 := hst.out
        rw [if_pos rfl] at hst2
        have hasp' : wr.cell? ⟨3, 32, none⟩ = some (.int .u8 1) := hasp
        clear hasp
        by_cases hG : 0 ≤ G2
        · rw [if_pos hG] at hst2
          subst hst2
          obtain ⟨g, rfl⟩ : ∃ g : Nat, G2 = g := ⟨G2.toNat, by omega⟩
          have hadm : G1 ++ [(allS.drop g).take (k - g)] <+: patTexts := List.isPrefixOf_iff_prefix.1 hpre
          obtain ⟨fn, tmps, assign, body, hy, hR⟩ := hY G1 ((allS.drop g).take (k - g)) wr hJs hRs' hadm
          dsimp only [fEnc] at hy
          rw [← hex.out g k] at hy
          replace hadm := hid hadm
          clear hpre
          have hF2 := hid (show fSt allS (k + 1) = (G1 ++ [(allS.drop g).take (k - g)], -1) from hF.out)
          clear hF hst
          gi_wp2
          refine ⟨rfl, hR.mono ?_⟩
          rintro e W3 (⟨rfl, hJ3, hR3, -⟩ | ⟨rfl, hJx3⟩)
          · have hR3' := hR3
            obtain ⟨y1, y2⟩ := hR3
            have x3 := cell_blk (i := 0) y1 rfl
            gi_wp2
            refine ⟨⟨k + 1, by omega, by go_num, by rw [hF2.out], by rw [hF2.out]; exact hJ3, hR3'⟩, by simp [RowKit.intOf]; omega⟩
          · gi_wp2
            refine bodyPost_ret (results_none rfl _ _ _) rfl ?_
            exact ⟨⟨_, rfl⟩, .inr ⟨_, trivial, hJx3⟩⟩
        · rw [if_neg hG] at hst2
          subst hst2
          obtain rfl : G2 = -1 := by omega
          gi_wp2
          refine ⟨⟨k + 1, by omega, by go_num, by rw [hF.out], by rw [hF.out]; exact hJs, hRs'⟩, by simp [RowKit.intOf]; omega⟩
      · have hn : c.toNat ≠ 32 := fun h => h32 (by apply UInt8.toNat_inj.1; rw [h]; rfl)
        have hgt : 32 < c.toNat := by omega
        rw [if_neg (by omega)] at hasp
        have hst2 := hst.out
        rw [if_neg h32] at hst2
        have hci : (c.toNat : Int) < 128 := by omega
        by_cases hG : G2 < 0
        · rw [if_pos hG] at hst2
          subst hst2
          gi_wp2
          refine ⟨⟨k + 1, by omega, by go_num, by rw [hF.out], by rw [hF.out]; exact hJs, hRs'⟩, by simp [RowKit.intOf]; omega⟩
        · rw [if_neg hG] at hst2
          subst hst2
          gi_wp2
          refine ⟨⟨k + 1, by omega, by go_num, by rw [hF.out], by rw [hF.out]; exact hJs, hRs'⟩, by simp [RowKit.intOf]; omega⟩
    · obtain rfl : k = 78 := by omega
      obtain ⟨f1, f2⟩ := f_end
      have hpre := List.prefix_refl patTexts
      generalize fSt allS 78 = G at *
      obtain ⟨G1, G2⟩ := G
      dsimp only at *
      obtain ⟨g, rfl⟩ : ∃ g : Nat, G2 = g := ⟨G2.toNat, by omega⟩
      have f1' : G1 ++ [(allS.drop g).take (78 - g)] = patTexts := f1
      obtain ⟨fn, tmps, assign, body, hy, hR⟩ := hY G1 ((allS.drop g).take (78 - g)) wr hJs hRs' (by rw [f1']; exact hpre)
      dsimp only [fEnc] at hy
      rw [← hex.out g 78] at hy
      have hJe := hid f1'
      clear f1 f1' hpre g3
      gi_wp2
      refine ⟨rfl, hR.mono ?_⟩
      rintro e W3 (⟨rfl, hJ3, hR3, -⟩ | ⟨rfl, hJx3⟩)
      · gi_wp2
        go_end0
        exact ⟨⟨_, rfl⟩, .inl ⟨_, rfl, by rw [hJe.out] at hJ3; exact hJ3, hR3⟩⟩
      · gi_wp2
        go_end0
        exact ⟨⟨_, rfl⟩, .inr ⟨_, trivial, hJx3⟩⟩
end Go.Proofs.YtjkfefjfmocekaaDoor
