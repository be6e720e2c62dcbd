/- The walk of the reference's words. -/
import Derived.Test.YtkmnmigpnbehaaaDoorScG
namespace Go.Proofs.YtkmnmigpnbehaaaDoor
open Go.RowKit Go.Shelf Go.Lib

def encT (s : ByteArray) : List Value := [.string s]
theorem Tryd.infoS : (Tryd.prog.info? 9).map (fun i => (i.zero, i.size, i.bytes)) = some (some (.string ⟨#[]⟩), 1, 16) := by kernel_rfl
/-- what a loop that cuts has laid out so far: pieces L, the next one from f on, k the sign that is looked at -/
def CutInv (c : UInt8) (l : L8) (f k : Nat) (L : List L8) : Prop :=
  (k ≤ l.length ∧ f ≤ k ∧ L ++ cutB c (l.drop f) = cutB c l ∧ c ∉ (l.take k).drop f) ∨ (k = l.length + 1 ∧ L = cutB c l)
theorem CutInv.start (c : UInt8) (l : L8) : CutInv c l 0 0 [] := .inl ⟨Nat.zero_le _, Nat.le_refl _, rfl, by simp⟩
theorem CutInv.from_le {c : UInt8} {l : L8} {f k : Nat} {L : List L8} (h : CutInv c l f k L) (hk : k ≤ l.length) : f ≤ k := by
  rcases h with h | h
  · exact h.2.1
  · omega
theorem CutInv.done {c : UInt8} {l : L8} {f k : Nat} {L : List L8} (h : CutInv c l f k L) (hk : l.length < k) : L = cutB c l := by
  rcases h with h | h
  · omega
  · exact h.2
theorem CutInv.last {c : UInt8} {l : L8} {f : Nat} {L : List L8} (h : CutInv c l f l.length L) (g : Nat) : CutInv c l g (l.length + 1) (L ++ [(l.take l.length).drop f]) := by
  rcases h with ⟨-, h1, h2, h3⟩ | h
  · refine .inr ⟨rfl, ?_⟩
    rw [List.take_length] at h3 ⊢
    rw [← h2, cutB_none h3]
  · omega
theorem CutInv.hit {c : UInt8} {l : L8} {f k : Nat} {L : List L8} (h : CutInv c l f k L) (hk : k < l.length) (hc : l[k] = c) : CutInv c l (k + 1) (k + 1) (L ++ [(l.take k).drop f]) := by
  rcases h with ⟨-, h1, h2, h3⟩ | h
  · refine .inl ⟨hk, Nat.le_refl _, ?_, by rw [List.drop_take, Nat.sub_self]; simp⟩
    have e : l.drop f = (l.take k).drop f ++ c :: l.drop (k + 1) := by
      conv => lhs; rw [← List.take_append_drop k l, List.drop_append_of_le_length (by rw [List.length_take]; omega)]
      rw [List.drop_eq_getElem_cons hk, hc]
    rw [← h2, e, cutB_hit _ h3, List.append_assoc]; rfl
  · omega
theorem CutInv.miss {c : UInt8} {l : L8} {f k : Nat} {L : List L8} (h : CutInv c l f k L) (hk : k < l.length) (hc : l[k] ≠ c) : CutInv c l f (k + 1) L := by
  rcases h with ⟨-, h1, h2, h3⟩ | h
  · refine .inl ⟨hk, by omega, h2, ?_⟩
    rw [List.take_succ_eq_append_getElem hk, List.drop_append_of_le_length (by rw [List.length_take]; omega), List.mem_append]
    rintro (h | h)
    · exact h3 h
    · exact hc (List.mem_singleton.1 h).symm
  · omega
/-- pieces that are known by their signs -/
theorem pieces_of {c : UInt8} {s : ByteArray} {L : List ByteArray} (h : L.map (fun x => x.data.toList) = cutB c s.data.toList) : L = pcsB c s := by
  unfold pcsB
  rw [← h, List.map_map]
  conv => lhs; rw [← List.map_id L]
  exact List.map_congr_left fun x _ => (ba_toB x).symm

set_option maxRecDepth 100000 in
set_option maxHeartbeats 4000000 in
theorem rwords_any (s : ByteArray) (w : World) (hs : s.size ≤ 1000000) :
    Calls Tryd.prog 16 #[.string s] w fun e w' => ∃ v, e = .returned v ∧ w'.ownsRow w.heap.size 9 1 v (pcsB 32 s).length ((pcsB 32 s).flatMap encT) ∧ Below w.heap.size w w' := by
  go_enter Tryd.func16, Tryd.ntmps16
  go_wp2_with (fail)
  go_loopw [3, 4, 5] (fun ov fv i wr => ∃ (k f : Nat) (L : List ByteArray), k ≤ s.size + 1 ∧ f ≤ s.size + 1 ∧ L.length ≤ k ∧ i = .int .i64 k ∧ fv = .int .i64 f ∧ CutInv 32 s.data.toList f k (L.map fun x => x.data.toList) ∧ (∃ x, ov = x ∧ wr.ownsRow w.heap.size 9 1 x L.length (L.flatMap encT)) ∧ Below w.heap.size w wr) (fun _ _ i _ => s.size + 1 - (RowKit.intOf i).toNat)
  case atStart => exact ⟨0, 0, [], Nat.zero_le _, Nat.zero_le _, Nat.le_refl _, rfl, rfl, CutInv.start _ _, ⟨_, rfl, World.ownsRow_nil _ _ _ _⟩, Below.refl _ _⟩
  case round =>
    obtain ⟨k, f, L, hk, hf, hL, rfl, rfl, hI, ⟨x0, rfl, o0⟩, hB⟩ := hrel
    obtain ⟨px, qx, rfl, -, -⟩ := owns_shape o0
    by_cases hkl : k ≤ s.size
    · have hkI : (k : Int) ≤ (s.size : Int) := by omega
      have hfk : f ≤ k := hI.from_le (by rw [size8]; exact hkl)
      have hfI : (f : Int) ≤ (k : Int) := by omega
      replace hI := hid hI
      have o0a := o0.alloc (.cells #[.string (s.extract f k)] 9)
      have sla : Sl (wr.alloc (.cells #[.string (s.extract f k)] 9)) 1 encT (.slice (some ⟨wr.heap.size, 0, none⟩) 1 1) [s.extract f k] := sl_of_block (l := [s.extract f k]) (World.alloc_heap_new wr _) rfl (fun _ _ => rfl) (Nat.le_refl 1) (by decide)
      have hBa := hB.alloc hB.size (.cells #[.string (s.extract f k)] 9)
      obtain ⟨i0, hi, hz0, hz1, hz2⟩ := info_parts Tryd.infoS
      by_cases hke : k = s.size
      · have hkb : ((k : Int) == (s.size : Int)) = true := by simp [hke]
        have hI2 : Hid (CutInv 32 s.data.toList (k + 1) (k + 1) ((L ++ [s.extract f k]).map fun x => x.data.toList)) := by
          have h8 : s.data.toList.length = k := by rw [size8, hke]
          have h := CutInv.last (l := s.data.toList) (by rw [h8]; exact hI.out) (k + 1)
          rw [h8] at h
          refine hid ?_
          rw [List.map_append, List.map_cons, List.map_nil, ex8]
          exact h
        replace hke := hid hke
        go_wp2_with (at_builtin; go_must (first
          | (refine wpList_append_sl rfl _ _ 44 rfl w.heap.size 9 i0 (.string ⟨#[]⟩) 1 16 Tryd.underlying44 hi hz0 hz1 hz2 rfl (by decide) _ _ _ rfl o0a encT _ [s.extract f k] rfl sla (fun x _ => ⟨rfl, fun u hu => by obtain rfl := List.mem_singleton.1 hu; rfl⟩) (by unfold maxLen; simp only [List.length_cons, List.length_nil]; omega) (by simp only [List.length_cons, List.length_nil]; omega) hBa.size ?_
             intro v2 W2 own2 grow2 _)))
        have hB2 := hBa.grown grow2 hBa.size (fun _ e => own_baseS o0a e)
        rw [← List.length_append, ← List.flatMap_append] at own2
        refine ⟨⟨k + 1, k + 1, L ++ [s.extract f k], by omega, by omega, by rw [List.length_append]; simp only [List.length_cons, List.length_nil]; omega, by go_num, by go_num, hI2.out, ⟨_, rfl, own2⟩, hB2⟩, by simp [RowKit.intOf]; omega⟩
      · have hkb : ((k : Int) == (s.size : Int)) = false := by simp only [beq_eq_false_iff_ne, ne_eq]; omega
        have hkl2 : k < s.size := by omega
        have hkI2 : (k : Int) < (s.size : Int) := by omega
        have h8 : k < s.data.toList.length := by rw [size8]; exact hkl2
        have hg : s.data.toList[k] = s[k] := rfl
        by_cases hc : s[k] = 32
        · have hcb : ((s[k].toNat : Int) == 32) = true := by rw [hc]; rfl
          have hI2 : Hid (CutInv 32 s.data.toList (k + 1) (k + 1) ((L ++ [s.extract f k]).map fun x => x.data.toList)) := by
            have h := hI.out.hit h8 (by rw [hg, hc])
            refine hid ?_
            rw [List.map_append, List.map_cons, List.map_nil, ex8]
            exact h
          replace hc := hid hc
          clear hg
          go_wp2_with (at_builtin; go_must (first
            | (refine wpList_append_sl rfl _ _ 44 rfl w.heap.size 9 i0 (.string ⟨#[]⟩) 1 16 Tryd.underlying44 hi hz0 hz1 hz2 rfl (by decide) _ _ _ rfl o0a encT _ [s.extract f k] rfl sla (fun x _ => ⟨rfl, fun u hu => by obtain rfl := List.mem_singleton.1 hu; rfl⟩) (by unfold maxLen; simp only [List.length_cons, List.length_nil]; omega) (by simp only [List.length_cons, List.length_nil]; omega) hBa.size ?_
               intro v2 W2 own2 grow2 _)))
          have hB2 := hBa.grown grow2 hBa.size (fun _ e => own_baseS o0a e)
          rw [← List.length_append, ← List.flatMap_append] at own2
          refine ⟨⟨k + 1, k + 1, L ++ [s.extract f k], by omega, by omega, by rw [List.length_append]; simp only [List.length_cons, List.length_nil]; omega, by go_num, by go_num, hI2.out, ⟨_, rfl, own2⟩, hB2⟩, by simp [RowKit.intOf]; omega⟩
        · have hcb : ((s[k].toNat : Int) == 32) = false := by
            simp only [beq_eq_false_iff_ne, ne_eq]
            intro h
            exact hc (UInt8.toNat_inj.1 (by show s[k].toNat = 32; omega))
          have hI2 : Hid (CutInv 32 s.data.toList f (k + 1) (L.map fun x => x.data.toList)) := hid (hI.out.miss h8 (by rw [hg]; exact hc))
          replace hc := hid hc
          clear hg
          go_wp2_with (fail)
          refine ⟨⟨k + 1, f, L, by omega, by omega, by omega, by go_num, rfl, hI2.out, ⟨_, rfl, o0⟩, hB⟩, by simp [RowKit.intOf]; omega⟩
    · have hLp := pieces_of (hI.done (by rw [size8]; omega))
      subst hLp
      clear hI
      go_wp2_with (fail)
      go_ret
      exact ⟨_, rfl, o0, hB⟩

end Go.Proofs.YtkmnmigpnbehaaaDoor
