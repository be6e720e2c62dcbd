/- The walks of slices.Chunk and of its iterator of entries (printed by gen_iyf.py). -/
import Derived.Test.YtomgjapjeckokaaIyF
namespace Go.Proofs.Ytomgjapjeckokaa
open Go.RowKit Go.Shelf Go.Lib
attribute [local go_sem] Oper.semAt_some

set_option maxRecDepth 100000 in
set_option maxHeartbeats 400000 in
theorem chunkCU_any (p : Option Addr) (n c sz : Nat) (w : World) (hsz : 0 < sz ∧ sz ≤ 1000) :
    Calls Try.prog 65 #[.slice p n c, .int .i64 sz] w fun e w' => e = .returned (.func (.func 71) #[] #[.pointer (some ⟨w.heap.size, 0, none⟩), .pointer (some ⟨w.heap.size + 1, 0, none⟩)]) ∧
      w' = (w.alloc (.cells #[.slice p n c] 54)).alloc (.cells #[.int .i64 sz] 3) := by
  have h1 : ¬ (sz : Int) < 1 := by omega
  go_enter Try.func65, Try.ntmps65
  go_wp2_with (fail)
  go_ret
  exact ⟨rfl, rfl⟩

set_option maxRecDepth 100000 in
set_option maxHeartbeats 400000 in
theorem chunkCE_any (p : Option Addr) (n c sz : Nat) (w : World) (hsz : 0 < sz ∧ sz ≤ 1000) :
    Calls Try.prog 27 #[.slice p n c, .int .i64 sz] w fun e w' => e = .returned (.func (.func 44) #[] #[.pointer (some ⟨w.heap.size, 0, none⟩), .pointer (some ⟨w.heap.size + 1, 0, none⟩)]) ∧
      w' = (w.alloc (.cells #[.slice p n c] 22)).alloc (.cells #[.int .i64 sz] 3) := by
  have h1 : ¬ (sz : Int) < 1 := by omega
  go_enter Try.func27, Try.ntmps27
  go_wp2_with (fail)
  go_ret
  exact ⟨rfl, rfl⟩

/-- what Chunk hands out in round j -/
def encCE (b o L sz : Nat) (j : Nat) : Array Value := #[.slice (some ⟨b, o + j * sz * 35, none⟩) (min sz (L - j * sz)) (min sz (L - j * sz))]
set_option maxRecDepth 100000 in
set_option maxHeartbeats 1000000 in
theorem chunkCE_seq (bx by' b o L cap sz N : Nat) (hsz : 0 < sz ∧ sz ≤ 1000) (hL : L ≤ 1000000) (hcap : L ≤ cap ∧ cap ≤ maxLen) (hN : (N - 1) * sz < L + (if N = 0 then 1 else 0) ∧ L ≤ N * sz) :
    Seq Try.prog 44 #[.pointer (some ⟨bx, 0, none⟩), .pointer (some ⟨by', 0, none⟩)] (encCE b o L sz) (fun W => W.cell? ⟨bx, 0, none⟩ = some (.slice (some ⟨b, o, none⟩) L cap) ∧ W.cell? ⟨by', 0, none⟩ = some (.int .i64 sz)) (fun pre x _ => pre ++ [x] <+: List.range N) (fun xs _ => xs = List.range N) (fun _ _ => True) := by
  intro l J Jx W hJ hJx hY h0 hR0
  have hRst : ∀ B, St B (fun W => W.cell? ⟨bx, 0, none⟩ = some (.slice (some ⟨b, o, none⟩) L cap) ∧ W.cell? ⟨by', 0, none⟩ = some (.int .i64 sz)) := fun B A C hk h => ⟨hk.cell h.1, hk.cell h.2⟩
  have hNL : ∀ j, j < N → j * sz < L := fun j hj => by
    have h1 := hN.1
    rw [if_neg (by omega)] at h1
    have h2 := Nat.mul_le_mul_right sz (show j ≤ N - 1 by omega)
    omega
  have hNb : N ≤ L + 1 := by
    by_cases hN0 : N = 0
    · omega
    · have h1 := hNL (N - 1) (by omega)
      have h2 := Nat.le_mul_of_pos_right (N - 1) hsz.1
      omega
  unfold maxLen at hcap
  refine calls_of_wpIn Try.func44 rfl ?_
  simp only [Try.ntmps44, List.size_toArray, List.length_cons, List.length_nil, Nat.reduceAdd, Nat.reduceSub, Array.replicate_succ, Array.replicate_zero, List.push_toArray, List.append_toArray, List.nil_append, List.cons_append]
  gi_wp2_with (fail)
  gi_loopw [4] (fun i wr => ∃ j : Nat, j ≤ N ∧ i = .int .i64 ((j * sz : Nat) : Int) ∧ J (List.range j) wr ∧ (fun W => W.cell? ⟨bx, 0, none⟩ = some (.slice (some ⟨b, o, none⟩) L cap) ∧ W.cell? ⟨by', 0, none⟩ = some (.int .i64 sz)) wr) (fun i _ => L + sz - (intOf i).toNat)
  case atStart => exact ⟨0, Nat.zero_le _, by rw [Nat.zero_mul]; rfl, h0, hR0⟩
  case round =>
    obtain ⟨j, hj, rfl, hJs, hc1, hc2⟩ := hrel
    by_cases hlt : j < N
    · have hI := hNL j hlt
      have hI2 : j * sz + sz = (j + 1) * sz := by rw [Nat.succ_mul]
      have hadm : List.range j ++ [j] <+: List.range N := by
        rw [← List.range_succ]
        refine ⟨(List.range N).drop (j + 1), ?_⟩
        have h9 : List.range (j + 1) = (List.range N).take (j + 1) := by rw [List.take_range, Nat.min_eq_left (by omega)]
        rw [h9, List.take_append_drop]
      have hencj : encCE b o L sz j = #[.slice (some ⟨b, o + j * sz * 35, none⟩) (min sz (L - j * sz)) (min sz (L - j * sz))] := rfl
      have hrs : List.range (j + 1) = List.range j ++ [j] := List.range_succ
      have hadm := hid hadm
      have hrs := hid hrs
      have hY' := hY (List.range j) j
      rw [hencj] at hY'
      clear hencj hNL
      obtain ⟨I, hIe⟩ : ∃ I, j * sz = I := ⟨_, rfl⟩
      obtain ⟨I2, hIe2⟩ : ∃ I, (j + 1) * sz = I := ⟨_, rfl⟩
      rw [hIe, hIe2] at hI2
      rw [hIe] at hI hY' ⊢
      obtain ⟨m, hm⟩ : ∃ m, min sz (L - I) = m := ⟨_, rfl⟩
      rw [hm] at hY'
      have hmm : 1 ≤ m ∧ m ≤ sz ∧ I + m ≤ L := by omega
      have hII : (I : Int) < (L : Int) := by omega
      have hIc : (I : Int) ≤ (L : Int) := by omega
      have hIw : IntKind.i64.wrap ((I : Int) + (sz : Int)) = (I2 : Int) := by rw [IntKind.wrap_i64]; omega
      have hIm : IntKind.i64.wrap ((I : Int) + (m : Int)) = ((I + m : Nat) : Int) := by rw [IntKind.wrap_i64]; omega
      have hcl : ¬ (cap = I) := by omega
      have hn1 : I ≤ L := by omega
      have hn2 : (I : Int) ≤ ((I + m : Nat) : Int) := by omega
      have hn3 : ((I + m : Nat) : Int) ≤ (cap : Int) := by omega
      have hn4 : I + m - I = m := by omega
      have hn5 : ¬ (I + m = I) := by omega
      have hn7 : I2 - I = sz := by omega
      have hn6 : I + m ≤ cap := by omega
      have hRd : (fun W => W.cell? ⟨bx, 0, none⟩ = some (.slice (some ⟨b, o, none⟩) L cap) ∧ W.cell? ⟨by', 0, none⟩ = some (.int .i64 sz)) wr.drew := ⟨hc1, hc2⟩
      have hY2 := hY' wr.drew (hJ _ _ _ (Kept.drewN _ _ 1) hJs) hRd hadm.out
      obtain ⟨fn, tmps, assign, body, hy, hRn⟩ := hY2
      clear hY hY' hadm
      replace hRn := hid hRn
      (try simp only [Nat.mul_one] at hy)
      have hcase : (m = L - I ∧ ((L - I : Nat) : Int) < (sz : Int) ∧ ¬ (sz : Int) < ((L - I : Nat) : Int)) ∨ (sz = m ∧ ¬ ((L - I : Nat) : Int) < (sz : Int) ∧ (sz : Int) < ((L - I : Nat) : Int)) ∨ (sz = m ∧ L - I = sz) := by omega
      clear hm
      rcases hcase with ⟨rfl, hq1, hq2⟩ | ⟨rfl, hq1, hq2⟩ | ⟨rfl, hq1⟩
      all_goals
        gi_upto_region 3 with (fail)
        refine region_heldIn (S := (fun W => W.cell? ⟨bx, 0, none⟩ = some (.slice (some ⟨b, o, none⟩) L cap) ∧ W.cell? ⟨by', 0, none⟩ = some (.int .i64 sz))) (by kernel_rfl) hRd (fun hHeld => ?_)
        refine wpAnyInH_take (i := 0) (oi := ⟨some 13, _, _, _, _, _⟩) (v := ?_) rfl rfl (by kernel_rfl) (by kernel_rfl) (by kernel_rfl) (fun _ _ _ h => h) (Or.inl ⟨by rfl, ?_⟩) (fun _ => rfl) (by assumption) ?_
        rotate_left
        · intro w hSw; (try dsimp only at hSw); go_simp <;> with_reducible rfl
        try simp only [Act.put, List.setIfInBounds_toArray, List.set_cons_zero, List.set_cons_succ]
        refine wpAnyInH_take (i := 1) (oi := ⟨some 14, _, _, _, _, _⟩) (v := ?_) rfl rfl (by kernel_rfl) (by kernel_rfl) (by kernel_rfl) (fun _ _ _ h => h) (Or.inl ⟨by rfl, ?_⟩) (fun _ => rfl) (by assumption) ?_
        rotate_left
        · intro w hSw; (try dsimp only at hSw); go_simp <;> with_reducible rfl
        try simp only [Act.put, List.setIfInBounds_toArray, List.set_cons_zero, List.set_cons_succ]
        refine wpAnyInH_take (i := 2) (oi := ⟨some 15, _, _, _, _, _⟩) (v := ?_) rfl rfl (by kernel_rfl) (by kernel_rfl) (by kernel_rfl) (fun _ _ _ h => h) (Or.inl ⟨by rfl, ?_⟩) (fun _ => rfl) (by assumption) ?_
        rotate_left
        · intro w hSw; (try dsimp only at hSw); go_simp <;> with_reducible rfl
        try simp only [Act.put, List.setIfInBounds_toArray, List.set_cons_zero, List.set_cons_succ]
        refine wpAnyInH_take (i := 3) (oi := ⟨some 16, _, _, _, _, _⟩) (v := ?_) rfl rfl (by kernel_rfl) (by kernel_rfl) (by kernel_rfl) (fun _ _ _ h => h) (Or.inl ⟨by rfl, ?_⟩) (fun _ => rfl) (by assumption) ?_
        rotate_left
        · intro w hSw; (try dsimp only at hSw); go_simp <;> with_reducible rfl
        try simp only [Act.put, List.setIfInBounds_toArray, List.set_cons_zero, List.set_cons_succ]
        refine wpAnyInH_take (i := 4) (oi := ⟨some 17, _, _, _, _, _⟩) (v := ?_) rfl rfl (by kernel_rfl) (by kernel_rfl) (by kernel_rfl) (fun _ _ _ h => h) (Or.inl ⟨by rfl, ?_⟩) (fun _ => rfl) (by assumption) ?_
        rotate_left
        · intro w hSw; (try dsimp only at hSw); go_simp <;> with_reducible rfl
        try simp only [Act.put, List.setIfInBounds_toArray, List.set_cons_zero, List.set_cons_succ]
        refine wpAnyInH_take (i := 5) (oi := ⟨some 18, _, _, _, _, _⟩) (v := ?_) rfl rfl (by kernel_rfl) (by kernel_rfl) (by kernel_rfl) (fun _ _ _ h => h) (Or.inl ⟨by rfl, ?_⟩) (fun _ => rfl) (by assumption) ?_
        rotate_left
        · intro w hSw; (try dsimp only at hSw); go_simp <;> with_reducible rfl
        try simp only [Act.put, List.setIfInBounds_toArray, List.set_cons_zero, List.set_cons_succ]
        refine wpAnyInH_take (i := 6) (oi := ⟨some 5, _, _, _, _, _⟩) (v := ?_) rfl rfl (by kernel_rfl) (by kernel_rfl) (by kernel_rfl) (fun _ _ _ h => h) (Or.inl ⟨by rfl, ?_⟩) (fun _ => rfl) (by assumption) ?_
        rotate_left
        · intro w hSw; (try dsimp only at hSw); go_simp <;> with_reducible rfl
        try simp only [Act.put, List.setIfInBounds_toArray, List.set_cons_zero, List.set_cons_succ]
        refine wpAnyInH_done (by kernel_rfl) ?_ _
        skip
        gi_wp2_with (fail)
        refine ⟨rfl, hRn.out.mono ?_⟩
        rintro e W3 (⟨rfl, hJ3, hR3, -⟩ | ⟨rfl, hJx3⟩)
        · have hR3' := hR3
          obtain ⟨hc3, hc4⟩ := hR3
          clear hc1 hc2 hRd hHeld hRn hy
          replace hJ3 := hid hJ3
          replace hR3' := hid hR3'
          replace hIe2 := hid hIe2
          gi_wp2_with (fail)
          go_roundw
          case rel => exact ⟨j + 1, by omega, by rw [hIe2.out], by rw [hrs.out]; exact hJ3.out, hR3'.out⟩
          case measure => simp [intOf]; omega
        · replace hJx3 := hid hJx3
          gi_wp2_with (fail)
          refine bodyPost_ret (results_none rfl _ _ _) rfl ?_
          first | exact ⟨⟨_, rfl⟩, .inr ⟨_, trivial, hJx3.out⟩⟩ | exact ⟨⟨_, rfl⟩, .inr ⟨_, hJx3.out⟩⟩
    · obtain rfl : j = N := by omega
      have hge := hN.2
      obtain ⟨I, hIe⟩ : ∃ I, j * sz = I := ⟨_, rfl⟩
      rw [hIe] at hge ⊢
      have hII : ¬ (I : Int) < (L : Int) := by omega
      clear hN hIe hNL
      gi_wp2_with (fail)
      go_end0
      first | exact ⟨⟨_, rfl⟩, .inl ⟨_, rfl, hJs, hc1, hc2⟩⟩ | exact ⟨⟨_, rfl⟩, .inl ⟨hJs, hc1, hc2⟩⟩

end Go.Proofs.Ytomgjapjeckokaa
