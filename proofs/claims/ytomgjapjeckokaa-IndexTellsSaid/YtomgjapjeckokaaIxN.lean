/- The walk of index's rises (printed by gen_ixn.py). -/
import Derived.Test.YtomgjapjeckokaaIxM
import Derived.Deep.RegionHeld3
import Derived.Deep.QuietTactic
namespace Go.Proofs.Ytomgjapjeckokaa
open Go.RowKit Go.Shelf Go.Lib

def keyAt (l : List Ent) (i : Nat) : List UInt8 := match l[i]? with | some e => e.key | none => []
def risesTo (l : List Ent) (n : Nat) : Bool := (List.range n).all fun i => i == 0 || lessS (keyAt l (i - 1)) (keyAt l i)
def risesL (l : List Ent) : Bool := risesTo l l.length
theorem risesTo_succ (l : List Ent) (n : Nat) : risesTo l (n + 1) = (risesTo l n && (n == 0 || lessS (keyAt l (n - 1)) (keyAt l n))) := by
  simp [risesTo, List.range_succ, List.all_append]
theorem risesTo_stop {l : List Ent} {n m : Nat} (h : risesTo l n = false) (hm : n ≤ m) : risesTo l m = false := by
  induction m with
  | zero => obtain rfl : n = 0 := by omega
            exact h
  | succ m ih =>
    by_cases e : n = m + 1
    · rw [← e]; exact h
    · rw [risesTo_succ, ih (by omega)]; rfl
theorem keyAt_of {l : List Ent} {i : Nat} {e : Ent} (h : l[i]? = some e) : keyAt l i = e.key := by unfold keyAt; rw [h]

set_option maxRecDepth 100000 in
set_option maxHeartbeats 2000000 in
theorem rises_any (l : List Ent) (b o cap : Nat) (w : World) (hs : Sl w 35 encE (.slice (some ⟨b, o, none⟩) l.length cap) l) (hl : l.length ≤ 1000000) (hk : ∀ e ∈ l, e.key.length = 32) :
    Calls Try.prog 35 #[.agg #[.slice (some ⟨b, o, none⟩) l.length cap, .func (.func 51) #[] #[]]] w fun e w' => e = .returned (.bool (risesL l)) ∧ Below w.heap.size w w' := by
  obtain ⟨n₀, hn₀⟩ : ∃ n, w.heap.size = n := ⟨_, rfl⟩
  have g0 := World.alloc_heap_new w (.cells #[.slice (some ⟨b, o, none⟩) l.length cap, .func (.func 51) #[] #[]] 72)
  rw [hn₀] at g0
  have s0 := (Kept.alloc 0 w (.cells #[.slice (some ⟨b, o, none⟩) l.length cap, .func (.func 51) #[] #[]] 72)).sl hs
  have B0 : Below n₀ w (w.alloc (.cells #[.slice (some ⟨b, o, none⟩) l.length cap, .func (.func 51) #[] #[]] 72)) := by rw [← hn₀]; exact (Below.refl _ w).alloc (Nat.le_refl _) _
  obtain ⟨W1, hW1⟩ : ∃ W : World, W = w.alloc (.cells #[.slice (some ⟨b, o, none⟩) l.length cap, .func (.func 51) #[] #[]] 72) := ⟨_, rfl⟩
  rw [← hW1] at g0 s0 B0
  have hi6 : ∀ e : Ent, e.key.length = 32 → (Try.prog.info? 48).map (·.size) = some (encE e).length := fun e h => by rw [encE_len, h]; kernel_rfl
  obtain ⟨L, hL⟩ : ∃ L, l.length = L := ⟨_, rfl⟩
  rw [hL] at g0 s0 hW1 ⊢
  have hLb : L ≤ 1000000 := by omega
  have cK : Hid (∀ (e : Ent) (W : World), e.key.length = 32 → Calls Try.prog 51 #[.agg (rowE e)] W fun r w' => r = .returned (.agg (rowU e.key)) ∧ Below W.heap.size W w') := hid fun e W h => key_any e W h
  go_enter Try.func35, Try.ntmps35
  go_upto_region 1 with (fail)
  rw [← hW1]
  clear hW1 hs
  have d0 : W1.cell? ⟨n₀, 0, none⟩ = some (.slice (some ⟨b, o, none⟩) L cap) := cell_blk (i := 0) g0 rfl
  go_wp2_with (fail)
  go_loopw [7] (fun iv wr => ∃ k : Nat, k ≤ L ∧ iv = .int .i64 k ∧ risesTo l k = true ∧ wr.heap[n₀]? = some (.cells #[.slice (some ⟨b, o, none⟩) L cap, .func (.func 51) #[] #[]] 72 (0, 0)) ∧ Sl wr 35 encE (.slice (some ⟨b, o, none⟩) L cap) l ∧ Below n₀ w wr) (fun iv _ => L - (RowKit.intOf iv).toNat)
  case atStart => exact ⟨0, Nat.zero_le _, rfl, rfl, g0, s0, B0⟩
  case round =>
    obtain ⟨k, hkL, rfl, hr, q0, qs, qB⟩ := hrel
    clear g0 s0 B0 d0
    by_cases hlt : k < L
    · have hkI : (k : Int) < (L : Int) := by omega
      have hstep := risesTo_succ l k
      rw [hr, Bool.true_and] at hstep
      by_cases hk0 : k = 0
      · subst hk0
        have hstep' : risesTo l 1 = true := hstep
        clear hstep hr
        replace hstep' := hid hstep'
        have qs1 := fun m => (Kept.drewN 0 wr m).sl qs
        go_wp2_with (fail)
        go_quiet (fail)
        go_wp2_with (fail)
        exact ⟨⟨1, by omega, rfl, hstep'.out, q0, qs1 _, qB.drewN _⟩, by simp [RowKit.intOf]; omega⟩
      · obtain ⟨j, hj⟩ : ∃ j, k - 1 = j := ⟨_, rfl⟩
        obtain ⟨e1, he1⟩ : ∃ e, l[j]? = some e := ⟨_, List.getElem?_eq_getElem (by omega)⟩
        obtain ⟨e2, he2⟩ : ∃ e, l[k]? = some e := ⟨_, List.getElem?_eq_getElem (by omega)⟩
        have hk1 := hk e1 (List.mem_of_getElem? he1)
        have hk2 := hk e2 (List.mem_of_getElem? he2)
        obtain ⟨ls, hls⟩ : ∃ x, lessS e1.key e2.key = x := ⟨_, rfl⟩
        rw [show (k == 0) = false by simpa using hk0, Bool.false_or, hj, keyAt_of he1, keyAt_of he2, hls] at hstep
        have cL : Hid (∀ W : World, Calls Try.prog 52 #[.agg (rowU e1.key), .agg (rowU e2.key)] W fun e w' => e = .returned (.bool ls) ∧ Below W.heap.size W w') := hid fun W => by rw [← hls]; exact Less_any _ _ W hk1 hk2
        obtain ⟨b', o', c', he', -, -, hc⟩ := qs.open (by intro h; rw [h] at hL; simp at hL; omega)
        simp only [Value.slice.injEq, Option.some.injEq, Addr.mk.injEq, and_true] at he'
        obtain ⟨⟨rfl, rfl⟩, -, rfl⟩ := he'
        have hr1 := hc j e1 he1
        have hr2 := hc k e2 he2
        have hkw : IntKind.i64.wrap ((k : Int) - 1) = (j : Int) := by rw [IntKind.wrap_i64]; omega
        have hjI : (j : Int) < (L : Int) := by omega
        have hk0I : (0 : Int) < (k : Int) := by omega
        have hk0N : 0 < k := by omega
        obtain ⟨SS, hSS⟩ : ∃ SS : World → Prop, ∀ W, SS W ↔ (W.heap[n₀]? = some (.cells #[.slice (some ⟨b, o, none⟩) L cap, .func (.func 51) #[] #[]] 72 (0, 0)) ∧ Sl W 35 encE (.slice (some ⟨b, o, none⟩) L cap) l ∧ Below n₀ w W) := ⟨_, fun _ => Iff.rfl⟩
        have kS : Hid (∀ W W' : World, (W.cell? ⟨n₀, 0, none⟩ = some (.slice (some ⟨b, o, none⟩) L cap) ∧ W.cell? ⟨n₀, 1, none⟩ = some (.func (.func 51) #[] #[]) ∧ W.rangeAt b (o + j * 35) (encE e1) ∧ W.rangeAt b (o + k * 35) (encE e2) ∧ SS W) → Below W.heap.size W W' → W'.cell? ⟨n₀, 0, none⟩ = some (.slice (some ⟨b, o, none⟩) L cap) ∧ W'.cell? ⟨n₀, 1, none⟩ = some (.func (.func 51) #[] #[]) ∧ W'.rangeAt b (o + j * 35) (encE e1) ∧ W'.rangeAt b (o + k * 35) (encE e2) ∧ SS W') := hid (by
          rintro W W' ⟨-, -, -, -, h⟩ hb
          have kk9 := Kept.of_below hb 0
          obtain ⟨h1, h2, h3⟩ := (hSS W).1 h
          have h1' := kk9.same _ _ h1 (.inl rfl)
          have h2' := kk9.sl h2
          obtain ⟨b9, o9, c9, he9, -, -, hc9⟩ := h2'.open (by intro h; rw [h] at hL; simp at hL; omega)
          simp only [Value.slice.injEq, Option.some.injEq, Addr.mk.injEq, and_true] at he9
          obtain ⟨⟨rfl, rfl⟩, -, rfl⟩ := he9
          exact ⟨cell_blk (i := 0) h1' rfl, cell_blk (i := 1) h1' rfl, hc9 j e1 he1, hc9 k e2 he2, (hSS W').2 ⟨h1', h2', h3.trans (hb.mono (by have := h3.size; omega))⟩⟩)
        have st : Hid (wr.drew.cell? ⟨n₀, 0, none⟩ = some (.slice (some ⟨b, o, none⟩) L cap) ∧ wr.drew.cell? ⟨n₀, 1, none⟩ = some (.func (.func 51) #[] #[]) ∧ wr.drew.rangeAt b (o + j * 35) (encE e1) ∧ wr.drew.rangeAt b (o + k * 35) (encE e2) ∧ SS wr.drew) := hid ⟨cell_blk (i := 0) (show wr.drew.heap[n₀]? = _ from q0) rfl, cell_blk (i := 1) (show wr.drew.heap[n₀]? = _ from q0) rfl, (World.rangeAt_drew _ _ _ _).2 hr1, (World.rangeAt_drew _ _ _ _).2 hr2, (hSS _).2 ⟨q0, (Kept.drewN 0 wr 1).sl qs, qB.drewN 1⟩⟩
        have fS : Hid (∀ W : World, (W.cell? ⟨n₀, 0, none⟩ = some (.slice (some ⟨b, o, none⟩) L cap) ∧ W.cell? ⟨n₀, 1, none⟩ = some (.func (.func 51) #[] #[]) ∧ W.rangeAt b (o + j * 35) (encE e1) ∧ W.rangeAt b (o + k * 35) (encE e2) ∧ SS W) → W.heap[n₀]? = some (.cells #[.slice (some ⟨b, o, none⟩) L cap, .func (.func 51) #[] #[]] 72 (0, 0)) ∧ Sl W 35 encE (.slice (some ⟨b, o, none⟩) L cap) l ∧ Below n₀ w W) := hid fun W h => (hSS W).1 h.2.2.2.2
        have hi6a := hi6 e1 hk1
        have hi6b := hi6 e2 hk2
        clear hSS q0 qs qB hc hr1 hr2 he1 he2 hls hr
        replace hstep := hid hstep
        replace hj := hid hj
        replace hi6 := hid hi6
        go_upto_region 4 with (fail)
        refine wp_region_held_drew (S := (fun W => W.cell? ⟨n₀, 0, none⟩ = some (.slice (some ⟨b, o, none⟩) L cap) ∧ W.cell? ⟨n₀, 1, none⟩ = some (.func (.func 51) #[] #[]) ∧ W.rangeAt b (o + j * 35) (encE e1) ∧ W.rangeAt b (o + k * 35) (encE e2) ∧ SS W)) (by kernel_rfl) (Hid.out st) (fun hHeld => ?_)
        refine wpAnyH_take (i := 0) (oi := ⟨some 10, _, _, _, _, _⟩) (v := ?_) rfl (by kernel_rfl) (by kernel_rfl) (by kernel_rfl) (fun _ _ _ h => h) (Or.inl ⟨by rfl, ?_⟩) (by assumption) ?_
        rotate_left
        · intro w hSw; (try dsimp only at hSw); go_simp <;> with_reducible rfl
        try simp only [Act.put, List.setIfInBounds_toArray, List.set_cons_zero, List.set_cons_succ]
        refine wpAnyH_take (i := 1) (oi := ⟨some 11, _, _, _, _, _⟩) (v := ?_) rfl (by kernel_rfl) (by kernel_rfl) (by kernel_rfl) (fun _ _ _ h => h) (Or.inl ⟨by rfl, ?_⟩) (by assumption) ?_
        rotate_left
        · intro w hSw; (try dsimp only at hSw); go_simp <;> with_reducible rfl
        try simp only [Act.put, List.setIfInBounds_toArray, List.set_cons_zero, List.set_cons_succ]
        refine wpAnyH_take (i := 2) (oi := ⟨some 12, _, _, _, _, _⟩) (v := ?_) rfl (by kernel_rfl) (by kernel_rfl) (by kernel_rfl) (fun _ _ _ h => h) (Or.inl ⟨by rfl, ?_⟩) (by assumption) ?_
        rotate_left
        · intro w hSw; (try dsimp only at hSw); go_simp <;> with_reducible rfl
        try simp only [Act.put, List.setIfInBounds_toArray, List.set_cons_zero, List.set_cons_succ]
        refine wpAnyH_take (i := 3) (oi := ⟨some 13, _, _, _, _, _⟩) (v := ?_) rfl (by kernel_rfl) (by kernel_rfl) (by kernel_rfl) (fun _ _ _ h => h) (Or.inl ⟨by rfl, ?_⟩) (by assumption) ?_
        rotate_left
        · intro w hSw; (try dsimp only at hSw); go_simp <;> with_reducible rfl
        try simp only [Act.put, List.setIfInBounds_toArray, List.set_cons_zero, List.set_cons_succ]
        refine wpAnyH_take (i := 4) (oi := ⟨some 14, _, _, _, _, _⟩) (v := ?_) rfl (by kernel_rfl) (by kernel_rfl) (by kernel_rfl) (fun _ _ _ h => h) (Or.inl ⟨by rfl, ?_⟩) (by assumption) ?_
        rotate_left
        · intro w hSw; (try dsimp only at hSw); go_simp <;> with_reducible rfl
        try simp only [Act.put, List.setIfInBounds_toArray, List.set_cons_zero, List.set_cons_succ]
        refine wpAnyH_take (i := 5) (oi := ⟨some 15, _, _, _, _, _⟩) (v := ?_) rfl (by kernel_rfl) (by kernel_rfl) (by kernel_rfl) (fun _ _ _ h => h) (Or.inl ⟨by rfl, ?_⟩) (by assumption) ?_
        rotate_left
        · intro w hSw; (try dsimp only at hSw); go_simp <;> with_reducible rfl
        try simp only [Act.put, List.setIfInBounds_toArray, List.set_cons_zero, List.set_cons_succ]
        refine wpAnyH_take (i := 6) (oi := ⟨some 16, _, _, _, _, _⟩) (v := ?_) rfl (by kernel_rfl) (by kernel_rfl) (by kernel_rfl) (fun _ _ _ h => h) (Or.inl ⟨by rfl, ?_⟩) (by assumption) ?_
        rotate_left
        · intro w hSw; (try dsimp only at hSw); go_simp <;> with_reducible rfl
        try simp only [Act.put, List.setIfInBounds_toArray, List.set_cons_zero, List.set_cons_succ]
        refine wpAnyH_take (i := 7) (oi := ⟨some 17, _, _, _, _, _⟩) (v := ?_) rfl (by kernel_rfl) (by kernel_rfl) (by kernel_rfl) (fun _ _ _ h => h) (Or.inl ⟨by rfl, ?_⟩) (by assumption) ?_
        rotate_left
        · intro w hSw; (try dsimp only at hSw); go_simp <;> with_reducible rfl
        try simp only [Act.put, List.setIfInBounds_toArray, List.set_cons_zero, List.set_cons_succ]
        refine wpAnyH_take (i := 8) (oi := ⟨some 18, _, _, _, _, _⟩) (v := ?_) rfl (by kernel_rfl) (by kernel_rfl) (by kernel_rfl) (fun _ _ _ h => h) (Or.inl ⟨by rfl, ?_⟩) (by assumption) ?_
        rotate_left
        · intro w hSw; (try dsimp only at hSw); go_simp <;> with_reducible rfl
        try simp only [Act.put, List.setIfInBounds_toArray, List.set_cons_zero, List.set_cons_succ]
        refine wpAnyH_take (i := 9) (oi := ⟨some 19, _, _, _, _, _⟩) (v := ?_) rfl (by kernel_rfl) (by kernel_rfl) (by kernel_rfl) (fun _ _ _ h => h) (Or.inl ⟨by rfl, ?_⟩) (by assumption) ?_
        rotate_left
        · intro w hSw; (try dsimp only at hSw); go_simp <;> with_reducible rfl
        try simp only [Act.put, List.setIfInBounds_toArray, List.set_cons_zero, List.set_cons_succ]
        refine wpAnyH_take (i := 10) (oi := ⟨some 20, _, _, _, _, _⟩) rfl (by kernel_rfl) (by kernel_rfl) (by kernel_rfl) (fun _ _ _ h => h) (yieldsIf_load_mid (by rfl) 48 _ rfl b (o + j * 35) rfl (encE e1) _ (fun w h => h.2.2.1) Try.underlying48 rfl hi6a) (by assumption) ?_
        try simp only [Act.put, List.setIfInBounds_toArray, List.set_cons_zero, List.set_cons_succ]
        refine wpAnyH_take (i := 12) (oi := ⟨some 22, _, _, _, _, _⟩) (v := ?_) rfl (by kernel_rfl) (by kernel_rfl) (by kernel_rfl) (fun _ _ _ h => h) (Or.inl ⟨by rfl, ?_⟩) (by assumption) ?_
        rotate_left
        · intro w hSw; (try dsimp only at hSw); go_simp <;> with_reducible rfl
        try simp only [Act.put, List.setIfInBounds_toArray, List.set_cons_zero, List.set_cons_succ]
        refine wpAnyH_take (i := 13) (oi := ⟨some 23, _, _, _, _, _⟩) (v := ?_) rfl (by kernel_rfl) (by kernel_rfl) (by kernel_rfl) (fun _ _ _ h => h) (Or.inl ⟨by rfl, ?_⟩) (by assumption) ?_
        rotate_left
        · intro w hSw; (try dsimp only at hSw); go_simp <;> with_reducible rfl
        try simp only [Act.put, List.setIfInBounds_toArray, List.set_cons_zero, List.set_cons_succ]
        refine wpAnyH_take (i := 14) (oi := ⟨some 24, _, _, _, _, _⟩) (v := ?_) rfl (by kernel_rfl) (by kernel_rfl) (by kernel_rfl) (fun _ _ _ h => h) (Or.inl ⟨by rfl, ?_⟩) (by assumption) ?_
        rotate_left
        · intro w hSw; (try dsimp only at hSw); go_simp <;> with_reducible rfl
        try simp only [Act.put, List.setIfInBounds_toArray, List.set_cons_zero, List.set_cons_succ]
        refine wpAnyH_take (i := 15) (oi := ⟨some 25, _, _, _, _, _⟩) (v := ?_) rfl (by kernel_rfl) (by kernel_rfl) (by kernel_rfl) (fun _ _ _ h => h) (Or.inl ⟨by rfl, ?_⟩) (by assumption) ?_
        rotate_left
        · intro w hSw; (try dsimp only at hSw); go_simp <;> with_reducible rfl
        try simp only [Act.put, List.setIfInBounds_toArray, List.set_cons_zero, List.set_cons_succ]
        refine wpAnyH_take (i := 16) (oi := ⟨some 26, _, _, _, _, _⟩) (v := ?_) rfl (by kernel_rfl) (by kernel_rfl) (by kernel_rfl) (fun _ _ _ h => h) (Or.inl ⟨by rfl, ?_⟩) (by assumption) ?_
        rotate_left
        · intro w hSw; (try dsimp only at hSw); go_simp <;> with_reducible rfl
        try simp only [Act.put, List.setIfInBounds_toArray, List.set_cons_zero, List.set_cons_succ]
        refine wpAnyH_take (i := 17) (oi := ⟨some 27, _, _, _, _, _⟩) (v := ?_) rfl (by kernel_rfl) (by kernel_rfl) (by kernel_rfl) (fun _ _ _ h => h) (Or.inl ⟨by rfl, ?_⟩) (by assumption) ?_
        rotate_left
        · intro w hSw; (try dsimp only at hSw); go_simp <;> with_reducible rfl
        try simp only [Act.put, List.setIfInBounds_toArray, List.set_cons_zero, List.set_cons_succ]
        refine wpAnyH_take (i := 18) (oi := ⟨some 28, _, _, _, _, _⟩) rfl (by kernel_rfl) (by kernel_rfl) (by kernel_rfl) (fun _ _ _ h => h) (yieldsIf_load_mid (by rfl) 48 _ rfl b (o + k * 35) rfl (encE e2) _ (fun w h => h.2.2.2.1) Try.underlying48 rfl hi6b) (by assumption) ?_
        try simp only [Act.put, List.setIfInBounds_toArray, List.set_cons_zero, List.set_cons_succ]
        refine wpAnyH_ready (rs := [11]) (by kernel_rfl) (by simp) ?_
        refine AllReadyH.cons rfl (fun K hK => ?_) AllReadyH.nil
        go_simp
        refine (cK.out e1 _ hk1).mono ?_
        rintro e w' ⟨rfl, hb9⟩
        refine hK.out _ _ ((Hid.out kS) _ _ (by assumption) hb9) (fun hHeld => ?_)
        clear hK K
        try simp only [Act.put, List.setIfInBounds_toArray, List.set_cons_zero, List.set_cons_succ]
        refine wpAnyH_ready (rs := [19]) (by kernel_rfl) (by simp) ?_
        refine AllReadyH.cons rfl (fun K hK => ?_) AllReadyH.nil
        go_simp
        refine (cK.out e2 _ hk2).mono ?_
        rintro e w' ⟨rfl, hb9⟩
        refine hK.out _ _ ((Hid.out kS) _ _ (by assumption) hb9) (fun hHeld => ?_)
        clear hK K
        try simp only [Act.put, List.setIfInBounds_toArray, List.set_cons_zero, List.set_cons_succ]
        refine wpAnyH_ready (rs := [20]) (by kernel_rfl) (by simp) ?_
        refine AllReadyH.cons rfl (fun K hK => ?_) AllReadyH.nil
        go_simp
        refine (cL.out _).mono ?_
        rintro e w' ⟨rfl, hb9⟩
        refine hK.out _ _ ((Hid.out kS) _ _ (by assumption) hb9) (fun hHeld => ?_)
        clear hK K
        try simp only [Act.put, List.setIfInBounds_toArray, List.set_cons_zero, List.set_cons_succ]
        refine wpAnyH_take (i := 21) (oi := ⟨some 31, _, _, _, _, _⟩) (v := ?_) rfl (by kernel_rfl) (by kernel_rfl) (by kernel_rfl) (fun _ _ _ h => h) (Or.inl ⟨by rfl, ?_⟩) (by assumption) ?_
        rotate_left
        · intro w hSw; (try dsimp only at hSw); go_simp <;> with_reducible rfl
        try simp only [Act.put, List.setIfInBounds_toArray, List.set_cons_zero, List.set_cons_succ]
        refine wpAnyH_take (i := 22) (oi := ⟨some 32, _, _, _, _, _⟩) (v := ?_) rfl (by kernel_rfl) (by kernel_rfl) (by kernel_rfl) (fun _ _ _ h => h) (Or.inl ⟨by rfl, ?_⟩) (by assumption) ?_
        rotate_left
        · intro w hSw; (try dsimp only at hSw); go_simp <;> with_reducible rfl
        try simp only [Act.put, List.setIfInBounds_toArray, List.set_cons_zero, List.set_cons_succ]
        refine wpAnyH_done (by kernel_rfl) ?_ _
        cases ls with
        | true =>
          go_wp2_with (fail)
          exact ⟨⟨k + 1, by omega, by go_num, hstep.out, (fS.out _ (by assumption)).1, (fS.out _ (by assumption)).2.1, (fS.out _ (by assumption)).2.2⟩, by simp [RowKit.intOf]; omega⟩
        | false =>
          have hres : risesL l = false := risesTo_stop (n := k + 1) hstep.out (by omega)
          replace hres := hid hres
          go_wp2_with (fail)
          go_ret
          exact ⟨by rw [hres.out]; rfl, hn₀ ▸ (fS.out _ (by assumption)).2.2⟩
    · obtain rfl : k = L := by omega
      have hres : risesL l = true := by unfold risesL; rw [hL]; exact hr
      replace hres := hid hres
      go_wp2_with (fail)
      go_ret
      exact ⟨by rw [hres.out]; rfl, hn₀ ▸ qB⟩
end Go.Proofs.Ytomgjapjeckokaa
