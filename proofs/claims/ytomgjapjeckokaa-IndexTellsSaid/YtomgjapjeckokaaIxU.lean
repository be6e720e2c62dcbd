/- The walk of slices.BinarySearchFunc at entries, over index's find$1 (printed by gen_ixu.py). -/
import Derived.Test.YtomgjapjeckokaaIxT
import Derived.Deep.RegionHeld3
import Derived.Deep.QuietTactic
namespace Go.Proofs.Ytomgjapjeckokaa
open Go.RowKit Go.Shelf Go.Lib

/-- where a key's entry is, or would be -/
def posL (l : List Ent) (key : List UInt8) : Nat := l.findIdx fun e => !lessS e.key key
def foundL (l : List Ent) (key : List UInt8) : Bool := decide (posL l key < l.length) && decide (cmpS (keyAt l (posL l key)) key = 0)
def MonoL (l : List Ent) (key : List UInt8) : Prop := ∀ a b, a ≤ b → b < l.length → lessS (keyAt l b) key = true → lessS (keyAt l a) key = true
theorem cmpS_neg {a b : List UInt8} : (cmpS a b < 0) ↔ lessS a b = true := by
  unfold cmpS
  split
  · simp [*]
  · split <;> simp [*]
theorem posL_at {l : List Ent} {key : List UInt8} {n : Nat} (hn : n ≤ l.length) (h1 : ∀ t, t < n → lessS (keyAt l t) key = true) (h2 : ∀ t, n ≤ t → t < l.length → lessS (keyAt l t) key = false) : posL l key = n := by
  unfold posL
  by_cases h : n < l.length
  · rw [List.findIdx_eq h]
    refine ⟨?_, fun j hj => ?_⟩
    · have := h2 n (Nat.le_refl _) h
      rw [keyAt_of (List.getElem?_eq_getElem h)] at this
      simp [this]
    · have := h1 j hj
      rw [keyAt_of (List.getElem?_eq_getElem (by omega))] at this
      simp [this]
  · obtain rfl : n = l.length := by omega
    rw [List.findIdx_eq_length]
    intro x hx
    obtain ⟨t, ht, rfl⟩ := List.getElem_of_mem hx
    have := h1 t ht
    rw [keyAt_of (List.getElem?_eq_getElem ht)] at this
    simp [this]

set_option maxRecDepth 100000 in
set_option maxHeartbeats 2000000 in
theorem bsf_any (l : List Ent) (key : List UInt8) (p : Option Addr) (cap ns : Nat) (w : World) (hs : Sl w 35 encE (.slice p l.length cap) l) (hl : l.length ≤ 1000000) (hk : ∀ e ∈ l, e.key.length = 32) (hk2 : key.length = 32) (hc : w.cell? ⟨ns, 1, none⟩ = some (.func (.func 51) #[] #[])) (hm : MonoL l key) :
    Calls Try.prog 54 #[.slice p l.length cap, .agg (rowU key), .func (.func 55) #[] #[.pointer (some ⟨ns, 0, none⟩)]] w fun r w' => r = .returned (.tuple #[.int .i64 (posL l key : Nat), .bool (foundL l key)]) ∧ Below w.heap.size w w' := by
  obtain ⟨n₀, hn₀⟩ : ∃ n, w.heap.size = n := ⟨_, rfl⟩
  have g0 := World.alloc_heap_new w (.cells (rowU key) 46)
  rw [hn₀] at g0
  have s0 := (Kept.alloc 0 w (.cells (rowU key) 46)).sl hs
  have hc' := (Kept.alloc 0 w (.cells (rowU key) 46)).cell hc
  have B0 : Below n₀ w (w.alloc (.cells (rowU key) 46)) := by rw [← hn₀]; exact (Below.refl _ w).alloc (Nat.le_refl _) _
  have hi6 : ∀ e : Ent, e.key.length = 32 → (Try.prog.info? 48).map (·.size) = some (encE e).length := fun e h => by rw [encE_len, h]; kernel_rfl
  have hi7 : (Try.prog.info? 46).map (·.size) = some (keyV key).length := by rw [keyV_len, hk2]; kernel_rfl
  obtain ⟨L, hL⟩ : ∃ L, l.length = L := ⟨_, rfl⟩
  have hpos : Hid (∀ n ≤ L, (∀ t, t < n → lessS (keyAt l t) key = true) → (∀ t, n ≤ t → t < L → lessS (keyAt l t) key = false) → posL l key = n) := hid fun n hn h1 h2 => posL_at (by omega) h1 (by rw [hL]; exact h2)
  have hfound : foundL l key = (decide (posL l key < L) && decide (cmpS (keyAt l (posL l key)) key = 0)) := by unfold foundL; rw [hL]
  rw [hL] at s0 ⊢
  have hm' : Hid (∀ a b, a ≤ b → b < L → lessS (keyAt l b) key = true → lessS (keyAt l a) key = true) := hid (by rw [← hL]; exact hm)
  have hLb : L ≤ 1000000 := by omega
  replace hfound := hid hfound
  clear hs hc hm
  have cFF : Hid (∀ (e : Ent) (W : World), e.key.length = 32 → W.cell? ⟨ns, 1, none⟩ = some (.func (.func 51) #[] #[]) → Calls Try.prog 55 #[.agg (rowE e), .agg (rowU key), .pointer (some ⟨ns, 0, none⟩)] W fun r w' => r = .returned (.int .i64 (cmpS e.key key)) ∧ Below W.heap.size W w') := hid fun e W h h2 => fcmp_any e key ns W h hk2 h2
  go_enter Try.func54, Try.ntmps54
  go_upto_region 1 with (fail)
  obtain ⟨W1, hW1⟩ : ∃ W : World, W = w.alloc (.cells (rowU key) 46) := ⟨_, rfl⟩
  rw [← hW1] at g0 s0 hc' B0 ⊢
  clear hW1
  go_wp2_with (fail)
  go_loopw [9, 10] (fun iv jv wr => ∃ lo hi : Nat, iv = .int .i64 lo ∧ jv = .int .i64 hi ∧ lo ≤ hi ∧ hi ≤ L ∧ Hid ((∀ t, t < lo → lessS (keyAt l t) key = true) ∧ (∀ t, hi ≤ t → t < L → lessS (keyAt l t) key = false)) ∧ wr.heap[n₀]? = some (.cells (rowU key) 46 (0, 0)) ∧ Sl wr 35 encE (.slice p L cap) l ∧ wr.cell? ⟨ns, 1, none⟩ = some (.func (.func 51) #[] #[]) ∧ Below n₀ w wr) (fun iv jv _ => (RowKit.intOf jv).toNat - (RowKit.intOf iv).toNat)
  case atStart => exact ⟨0, L, rfl, rfl, Nat.zero_le _, Nat.le_refl _, hid ⟨fun t h => absurd h (Nat.not_lt_zero _), fun t h h' => by omega⟩, g0, s0, hc', B0⟩
  case round =>
    obtain ⟨lo, hi, rfl, rfl, hlh, hhL, hI, q0, qs, q1, qB⟩ := hrel
    clear g0 s0 B0 hc'
    by_cases hlt : lo < hi
    · have hltI : (lo : Int) < (hi : Int) := by omega
      obtain ⟨m, hmm⟩ : ∃ m, (lo + hi) / 2 = m := ⟨_, rfl⟩
      have hmL : m < L := by omega
      have hmI : (m : Int) < (L : Int) := by omega
      have hmZ : ((lo : Int) + (hi : Int)) / 2 = (m : Int) := by omega
      obtain ⟨em, hem⟩ : ∃ e, l[m]? = some e := ⟨_, List.getElem?_eq_getElem (by omega)⟩
      have hkm := hk em (List.mem_of_getElem? hem)
      have hi6 := hi6 em hkm
      have hka := keyAt_of hem
      replace hka := hid hka
      obtain ⟨b', o', c', he', -, -, hcl⟩ := qs.open (by intro h; rw [h] at hL; simp at hL; omega)
      simp only [Value.slice.injEq] at he'
      obtain ⟨rfl, -, rfl⟩ := he'
      have hr1 := hcl m em hem
      obtain ⟨SS, hSS⟩ : ∃ SS : World → Prop, ∀ W, SS W ↔ (W.cell? ⟨ns, 1, none⟩ = some (.func (.func 51) #[] #[]) ∧ W.heap[n₀]? = some (.cells (rowU key) 46 (0, 0)) ∧ Sl W 35 encE (.slice (some ⟨b', o', none⟩) L cap) l ∧ Below n₀ w W) := ⟨_, fun _ => Iff.rfl⟩
      have at0 : Hid (∀ W, SS W → W.cell? ⟨ns, 1, none⟩ = some (.func (.func 51) #[] #[]) ∧ W.rangeAt n₀ 0 (keyV key) ∧ W.rangeAt b' (o' + m * 35) (encE em) ∧ SS W) := hid (fun W h => by
        obtain ⟨h1, h2, h3, h4⟩ := (hSS W).1 h
        obtain ⟨b9, o9, c9, he9, -, -, hc9⟩ := h3.open (by intro h; rw [h] at hL; simp at hL; omega)
        simp only [Value.slice.injEq, Option.some.injEq, Addr.mk.injEq, and_true] at he9
        obtain ⟨⟨rfl, rfl⟩, -, rfl⟩ := he9
        exact ⟨h1, range_blk (cs := keyV key) h2, hc9 m em hem, h⟩)
      have kS : Hid (∀ W W' : World, (W.cell? ⟨ns, 1, none⟩ = some (.func (.func 51) #[] #[]) ∧ W.rangeAt n₀ 0 (keyV key) ∧ W.rangeAt b' (o' + m * 35) (encE em) ∧ SS W) → Below W.heap.size W W' → W'.cell? ⟨ns, 1, none⟩ = some (.func (.func 51) #[] #[]) ∧ W'.rangeAt n₀ 0 (keyV key) ∧ W'.rangeAt b' (o' + m * 35) (encE em) ∧ SS W') := hid (by
        rintro W W' ⟨-, -, -, h⟩ hb
        have kk9 := Kept.of_below hb 0
        obtain ⟨h1, h2, h3, h4⟩ := (hSS W).1 h
        exact at0.out _ ((hSS W').2 ⟨kk9.cell h1, kk9.same _ _ h2 (.inl rfl), kk9.sl h3, h4.trans (hb.mono (by have := h4.size; omega))⟩))
      have fS : Hid (∀ W : World, (W.cell? ⟨ns, 1, none⟩ = some (.func (.func 51) #[] #[]) ∧ W.rangeAt n₀ 0 (keyV key) ∧ W.rangeAt b' (o' + m * 35) (encE em) ∧ SS W) → W.heap[n₀]? = some (.cells (rowU key) 46 (0, 0)) ∧ Sl W 35 encE (.slice (some ⟨b', o', none⟩) L cap) l ∧ W.cell? ⟨ns, 1, none⟩ = some (.func (.func 51) #[] #[]) ∧ Below n₀ w W) := hid fun W h => by
        obtain ⟨h1, h2, h3, h4⟩ := (hSS W).1 h.2.2.2
        exact ⟨h2, h3, h1, h4⟩
      have st : Hid (wr.drew.cell? ⟨ns, 1, none⟩ = some (.func (.func 51) #[] #[]) ∧ wr.drew.rangeAt n₀ 0 (keyV key) ∧ wr.drew.rangeAt b' (o' + m * 35) (encE em) ∧ SS wr.drew) := hid (at0.out _ ((hSS wr.drew).2 ⟨q1, q0, (Kept.drewN 0 wr 1).sl qs, qB.drewN 1⟩))
      clear hSS q0 q1 qs qB hcl hr1 hem at0
      have cF : Hid (∀ W : World, W.cell? ⟨ns, 1, none⟩ = some (.func (.func 51) #[] #[]) → Calls Try.prog 55 #[.agg (rowE em), .agg (rowU key), .pointer (some ⟨ns, 0, none⟩)] W fun r w' => r = .returned (.int .i64 (cmpS em.key key)) ∧ Below W.heap.size W w') := hid fun W h => cFF.out em W hkm h
      clear cFF hfound hpos
      obtain ⟨cv, hcv⟩ : ∃ x, cmpS em.key key = x := ⟨_, rfl⟩
      rw [hcv] at cF
      replace hcv := hid hcv
      go_upto_region 5 with (fail)
      refine wp_region_held_drew (S := (fun W => W.cell? ⟨ns, 1, none⟩ = some (.func (.func 51) #[] #[]) ∧ W.rangeAt n₀ 0 (keyV key) ∧ W.rangeAt b' (o' + m * 35) (encE em) ∧ SS W)) (by kernel_rfl) (Hid.out st) (fun hHeld => ?_)
      refine wpAnyH_take (i := 0) (oi := ⟨some 24, _, _, _, _, _⟩) (v := ?_) rfl (by kernel_rfl) (by kernel_rfl) (by kernel_rfl) (fun _ _ _ h => h) (Or.inl ⟨by rfl, ?_⟩) (by assumption) ?_
      rotate_left
      · intro w hSw; (try dsimp only at hSw); go_simp <;> with_reducible rfl
      try simp only [Act.put, List.setIfInBounds_toArray, List.set_cons_zero, List.set_cons_succ]
      refine wpAnyH_take (i := 1) (oi := ⟨some 25, _, _, _, _, _⟩) (v := ?_) rfl (by kernel_rfl) (by kernel_rfl) (by kernel_rfl) (fun _ _ _ h => h) (Or.inl ⟨by rfl, ?_⟩) (by assumption) ?_
      rotate_left
      · intro w hSw; (try dsimp only at hSw); go_simp <;> with_reducible rfl
      try simp only [Act.put, List.setIfInBounds_toArray, List.set_cons_zero, List.set_cons_succ]
      refine wpAnyH_take (i := 2) (oi := ⟨some 26, _, _, _, _, _⟩) (v := ?_) rfl (by kernel_rfl) (by kernel_rfl) (by kernel_rfl) (fun _ _ _ h => h) (Or.inl ⟨by rfl, ?_⟩) (by assumption) ?_
      rotate_left
      · intro w hSw; (try dsimp only at hSw); go_simp <;> with_reducible rfl
      try simp only [Act.put, List.setIfInBounds_toArray, List.set_cons_zero, List.set_cons_succ]
      refine wpAnyH_take (i := 3) (oi := ⟨some 27, _, _, _, _, _⟩) (v := ?_) rfl (by kernel_rfl) (by kernel_rfl) (by kernel_rfl) (fun _ _ _ h => h) (Or.inl ⟨by rfl, ?_⟩) (by assumption) ?_
      rotate_left
      · intro w hSw; (try dsimp only at hSw); go_simp <;> with_reducible rfl
      try simp only [Act.put, List.setIfInBounds_toArray, List.set_cons_zero, List.set_cons_succ]
      refine wpAnyH_take (i := 4) (oi := ⟨some 28, _, _, _, _, _⟩) rfl (by kernel_rfl) (by kernel_rfl) (by kernel_rfl) (fun _ _ _ h => h) (yieldsIf_load_mid (by rfl) 48 _ rfl b' (o' + m * 35) rfl (encE em) _ (fun w h => h.2.2.1) Try.underlying48 rfl hi6) (by assumption) ?_
      try simp only [Act.put, List.setIfInBounds_toArray, List.set_cons_zero, List.set_cons_succ]
      refine wpAnyH_take (i := 5) (oi := ⟨some 29, _, _, _, _, _⟩) rfl (by kernel_rfl) (by kernel_rfl) (by kernel_rfl) (fun _ _ _ h => h) (yieldsIf_load_mid (by rfl) 46 _ rfl n₀ 0 rfl (keyV key) _ (fun w h => h.2.1) Try.underlying46 rfl hi7) (by assumption) ?_
      try simp only [Act.put, List.setIfInBounds_toArray, List.set_cons_zero, List.set_cons_succ]
      refine wpAnyH_ready (rs := [6]) (by kernel_rfl) (by simp) ?_
      refine AllReadyH.cons rfl (fun K hK => ?_) AllReadyH.nil
      go_simp
      refine (cF.out _ hHeld.1).mono ?_
      rintro r w' ⟨rfl, hb9⟩
      refine hK.out _ _ ((Hid.out kS) _ _ (by assumption) hb9) (fun hHeld => ?_)
      clear hK K
      try simp only [Act.put, List.setIfInBounds_toArray, List.set_cons_zero, List.set_cons_succ]
      refine wpAnyH_take (i := 7) (oi := ⟨some 31, _, _, _, _, _⟩) (v := ?_) rfl (by kernel_rfl) (by kernel_rfl) (by kernel_rfl) (fun _ _ _ h => h) (Or.inl ⟨by rfl, ?_⟩) (by assumption) ?_
      rotate_left
      · intro w hSw; (try dsimp only at hSw); go_simp <;> with_reducible rfl
      try simp only [Act.put, List.setIfInBounds_toArray, List.set_cons_zero, List.set_cons_succ]
      refine wpAnyH_done (by kernel_rfl) ?_ _
      by_cases hneg : cv < 0
      · go_wp2_with (fail)
        obtain ⟨f1, f2, f3, f4⟩ := fS.out _ (by assumption)
        have hlm : lessS (keyAt l m) key = true := by rw [hka.out]; exact cmpS_neg.1 (by rw [hcv.out]; exact hneg)
        refine ⟨⟨m + 1, hi, by simp, rfl, by omega, hhL, hid ⟨fun t ht => ?_, hI.out.2⟩, f1, f2, f3, f4⟩, by simp [RowKit.intOf]; omega⟩
        exact hm'.out t m (by omega) hmL hlm
      · go_wp2_with (fail)
        obtain ⟨f1, f2, f3, f4⟩ := fS.out _ (by assumption)
        have hlm : lessS (keyAt l m) key = false := by
          rw [hka.out]
          cases hx : lessS em.key key with
          | false => rfl
          | true => exact absurd (by rw [← hcv.out]; exact cmpS_neg.2 hx) hneg
        refine ⟨⟨lo, m, rfl, rfl, by omega, by omega, hid ⟨hI.out.1, fun t ht htL => ?_⟩, f1, f2, f3, f4⟩, by simp [RowKit.intOf]; omega⟩
        cases hx : lessS (keyAt l t) key with
        | false => rfl
        | true => exact absurd (hm'.out m t ht htL hx) (by rw [hlm]; decide)
    · obtain rfl : lo = hi := by omega
      have hp := hpos.out lo hhL hI.out.1 hI.out.2
      have hfo := hfound.out
      rw [hp] at hfo
      clear hpos hfound hI hm' hlh
      replace hp := hid hp
      by_cases hlL : lo < L
      · have hloI : (lo : Int) < (L : Int) := by omega
        obtain ⟨em, hem⟩ : ∃ e, l[lo]? = some e := ⟨_, List.getElem?_eq_getElem (by omega)⟩
        have hkm := hk em (List.mem_of_getElem? hem)
        have hi6 := hi6 em hkm
        have hka := keyAt_of hem
        rw [hka, show decide (lo < L) = true from decide_eq_true hlL, Bool.true_and] at hfo
        clear hka
        obtain ⟨cv, hcv⟩ : ∃ x, cmpS em.key key = x := ⟨_, rfl⟩
        rw [hcv] at hfo
        have cF : Hid (∀ W : World, W.cell? ⟨ns, 1, none⟩ = some (.func (.func 51) #[] #[]) → Calls Try.prog 55 #[.agg (rowE em), .agg (rowU key), .pointer (some ⟨ns, 0, none⟩)] W fun r w' => r = .returned (.int .i64 cv) ∧ Below W.heap.size W w') := hid fun W h => by rw [← hcv]; exact cFF.out em W hkm h
        clear cFF hcv
        replace hfo := hid hfo
        obtain ⟨b', o', c', he', -, -, hcl⟩ := qs.open (by intro h; rw [h] at hL; simp at hL; omega)
        simp only [Value.slice.injEq] at he'
        obtain ⟨rfl, -, rfl⟩ := he'
        have hr1 := hcl lo em hem
        obtain ⟨SS, hSS⟩ : ∃ SS : World → Prop, ∀ W, SS W ↔ (W.cell? ⟨ns, 1, none⟩ = some (.func (.func 51) #[] #[]) ∧ W.heap[n₀]? = some (.cells (rowU key) 46 (0, 0)) ∧ Sl W 35 encE (.slice (some ⟨b', o', none⟩) L cap) l ∧ Below n₀ w W) := ⟨_, fun _ => Iff.rfl⟩
        have at0 : Hid (∀ W, SS W → W.cell? ⟨ns, 1, none⟩ = some (.func (.func 51) #[] #[]) ∧ W.rangeAt n₀ 0 (keyV key) ∧ W.rangeAt b' (o' + lo * 35) (encE em) ∧ SS W) := hid (fun W h => by
          obtain ⟨h1, h2, h3, h4⟩ := (hSS W).1 h
          obtain ⟨b9, o9, c9, he9, -, -, hc9⟩ := h3.open (by intro h; rw [h] at hL; simp at hL; omega)
          simp only [Value.slice.injEq, Option.some.injEq, Addr.mk.injEq, and_true] at he9
          obtain ⟨⟨rfl, rfl⟩, -, rfl⟩ := he9
          exact ⟨h1, range_blk (cs := keyV key) h2, hc9 lo em hem, h⟩)
        have kS : Hid (∀ W W' : World, (W.cell? ⟨ns, 1, none⟩ = some (.func (.func 51) #[] #[]) ∧ W.rangeAt n₀ 0 (keyV key) ∧ W.rangeAt b' (o' + lo * 35) (encE em) ∧ SS W) → Below W.heap.size W W' → W'.cell? ⟨ns, 1, none⟩ = some (.func (.func 51) #[] #[]) ∧ W'.rangeAt n₀ 0 (keyV key) ∧ W'.rangeAt b' (o' + lo * 35) (encE em) ∧ SS W') := hid (by
          rintro W W' ⟨-, -, -, h⟩ hb
          have kk9 := Kept.of_below hb 0
          obtain ⟨h1, h2, h3, h4⟩ := (hSS W).1 h
          exact at0.out _ ((hSS W').2 ⟨kk9.cell h1, kk9.same _ _ h2 (.inl rfl), kk9.sl h3, h4.trans (hb.mono (by have := h4.size; omega))⟩))
        have fS : Hid (∀ W : World, (W.cell? ⟨ns, 1, none⟩ = some (.func (.func 51) #[] #[]) ∧ W.rangeAt n₀ 0 (keyV key) ∧ W.rangeAt b' (o' + lo * 35) (encE em) ∧ SS W) → W.heap[n₀]? = some (.cells (rowU key) 46 (0, 0)) ∧ Sl W 35 encE (.slice (some ⟨b', o', none⟩) L cap) l ∧ W.cell? ⟨ns, 1, none⟩ = some (.func (.func 51) #[] #[]) ∧ Below n₀ w W) := hid fun W h => by
          obtain ⟨h1, h2, h3, h4⟩ := (hSS W).1 h.2.2.2
          exact ⟨h2, h3, h1, h4⟩
        have st : Hid (wr.drew.cell? ⟨ns, 1, none⟩ = some (.func (.func 51) #[] #[]) ∧ wr.drew.rangeAt n₀ 0 (keyV key) ∧ wr.drew.rangeAt b' (o' + lo * 35) (encE em) ∧ SS wr.drew) := hid (at0.out _ ((hSS wr.drew).2 ⟨q1, q0, (Kept.drewN 0 wr 1).sl qs, qB.drewN 1⟩))
        clear hSS q0 q1 qs qB hcl hr1 hem at0
        go_upto_region 8 with (fail)
        refine wp_region_held_drew (S := (fun W => W.cell? ⟨ns, 1, none⟩ = some (.func (.func 51) #[] #[]) ∧ W.rangeAt n₀ 0 (keyV key) ∧ W.rangeAt b' (o' + lo * 35) (encE em) ∧ SS W)) (by kernel_rfl) (Hid.out st) (fun hHeld => ?_)
        refine wpAnyH_take (i := 0) (oi := ⟨some 35, _, _, _, _, _⟩) (v := ?_) rfl (by kernel_rfl) (by kernel_rfl) (by kernel_rfl) (fun _ _ _ h => h) (Or.inl ⟨by rfl, ?_⟩) (by assumption) ?_
        rotate_left
        · intro w hSw; (try dsimp only at hSw); go_simp <;> with_reducible rfl
        try simp only [Act.put, List.setIfInBounds_toArray, List.set_cons_zero, List.set_cons_succ]
        refine wpAnyH_take (i := 1) (oi := ⟨some 36, _, _, _, _, _⟩) (v := ?_) rfl (by kernel_rfl) (by kernel_rfl) (by kernel_rfl) (fun _ _ _ h => h) (Or.inl ⟨by rfl, ?_⟩) (by assumption) ?_
        rotate_left
        · intro w hSw; (try dsimp only at hSw); go_simp <;> with_reducible rfl
        try simp only [Act.put, List.setIfInBounds_toArray, List.set_cons_zero, List.set_cons_succ]
        refine wpAnyH_take (i := 2) (oi := ⟨some 37, _, _, _, _, _⟩) (v := ?_) rfl (by kernel_rfl) (by kernel_rfl) (by kernel_rfl) (fun _ _ _ h => h) (Or.inl ⟨by rfl, ?_⟩) (by assumption) ?_
        rotate_left
        · intro w hSw; (try dsimp only at hSw); go_simp <;> with_reducible rfl
        try simp only [Act.put, List.setIfInBounds_toArray, List.set_cons_zero, List.set_cons_succ]
        refine wpAnyH_take (i := 3) (oi := ⟨some 38, _, _, _, _, _⟩) (v := ?_) rfl (by kernel_rfl) (by kernel_rfl) (by kernel_rfl) (fun _ _ _ h => h) (Or.inl ⟨by rfl, ?_⟩) (by assumption) ?_
        rotate_left
        · intro w hSw; (try dsimp only at hSw); go_simp <;> with_reducible rfl
        try simp only [Act.put, List.setIfInBounds_toArray, List.set_cons_zero, List.set_cons_succ]
        refine wpAnyH_take (i := 4) (oi := ⟨some 39, _, _, _, _, _⟩) (v := ?_) rfl (by kernel_rfl) (by kernel_rfl) (by kernel_rfl) (fun _ _ _ h => h) (Or.inl ⟨by rfl, ?_⟩) (by assumption) ?_
        rotate_left
        · intro w hSw; (try dsimp only at hSw); go_simp <;> with_reducible rfl
        try simp only [Act.put, List.setIfInBounds_toArray, List.set_cons_zero, List.set_cons_succ]
        refine wpAnyH_take (i := 5) (oi := ⟨some 40, _, _, _, _, _⟩) (v := ?_) rfl (by kernel_rfl) (by kernel_rfl) (by kernel_rfl) (fun _ _ _ h => h) (Or.inl ⟨by rfl, ?_⟩) (by assumption) ?_
        rotate_left
        · intro w hSw; (try dsimp only at hSw); go_simp <;> with_reducible rfl
        try simp only [Act.put, List.setIfInBounds_toArray, List.set_cons_zero, List.set_cons_succ]
        refine wpAnyH_take (i := 6) (oi := ⟨some 41, _, _, _, _, _⟩) (v := ?_) rfl (by kernel_rfl) (by kernel_rfl) (by kernel_rfl) (fun _ _ _ h => h) (Or.inl ⟨by rfl, ?_⟩) (by assumption) ?_
        rotate_left
        · intro w hSw; (try dsimp only at hSw); go_simp <;> with_reducible rfl
        try simp only [Act.put, List.setIfInBounds_toArray, List.set_cons_zero, List.set_cons_succ]
        refine wpAnyH_take (i := 7) (oi := ⟨some 42, _, _, _, _, _⟩) (v := ?_) rfl (by kernel_rfl) (by kernel_rfl) (by kernel_rfl) (fun _ _ _ h => h) (Or.inl ⟨by rfl, ?_⟩) (by assumption) ?_
        rotate_left
        · intro w hSw; (try dsimp only at hSw); go_simp <;> with_reducible rfl
        try simp only [Act.put, List.setIfInBounds_toArray, List.set_cons_zero, List.set_cons_succ]
        refine wpAnyH_take (i := 8) (oi := ⟨some 43, _, _, _, _, _⟩) (v := ?_) rfl (by kernel_rfl) (by kernel_rfl) (by kernel_rfl) (fun _ _ _ h => h) (Or.inl ⟨by rfl, ?_⟩) (by assumption) ?_
        rotate_left
        · intro w hSw; (try dsimp only at hSw); go_simp <;> with_reducible rfl
        try simp only [Act.put, List.setIfInBounds_toArray, List.set_cons_zero, List.set_cons_succ]
        refine wpAnyH_take (i := 9) (oi := ⟨some 44, _, _, _, _, _⟩) rfl (by kernel_rfl) (by kernel_rfl) (by kernel_rfl) (fun _ _ _ h => h) (yieldsIf_load_mid (by rfl) 48 _ rfl b' (o' + lo * 35) rfl (encE em) _ (fun w h => h.2.2.1) Try.underlying48 rfl hi6) (by assumption) ?_
        try simp only [Act.put, List.setIfInBounds_toArray, List.set_cons_zero, List.set_cons_succ]
        refine wpAnyH_take (i := 10) (oi := ⟨some 45, _, _, _, _, _⟩) rfl (by kernel_rfl) (by kernel_rfl) (by kernel_rfl) (fun _ _ _ h => h) (yieldsIf_load_mid (by rfl) 46 _ rfl n₀ 0 rfl (keyV key) _ (fun w h => h.2.1) Try.underlying46 rfl hi7) (by assumption) ?_
        try simp only [Act.put, List.setIfInBounds_toArray, List.set_cons_zero, List.set_cons_succ]
        refine wpAnyH_ready (rs := [11]) (by kernel_rfl) (by simp) ?_
        refine AllReadyH.cons rfl (fun K hK => ?_) AllReadyH.nil
        go_simp
        refine (cF.out _ hHeld.1).mono ?_
        rintro r w' ⟨rfl, hb9⟩
        refine hK.out _ _ ((Hid.out kS) _ _ (by assumption) hb9) (fun hHeld => ?_)
        clear hK K
        try simp only [Act.put, List.setIfInBounds_toArray, List.set_cons_zero, List.set_cons_succ]
        refine wpAnyH_take (i := 14) (oi := ⟨some 6, _, _, _, _, _⟩) (v := ?_) rfl (by kernel_rfl) (by kernel_rfl) (by kernel_rfl) (fun _ _ _ h => h) (Or.inl ⟨by rfl, ?_⟩) (by assumption) ?_
        rotate_left
        · intro w hSw; (try dsimp only at hSw); go_simp <;> with_reducible rfl
        try simp only [Act.put, List.setIfInBounds_toArray, List.set_cons_zero, List.set_cons_succ]
        refine wpAnyH_take (i := 12) (oi := ⟨some 47, _, _, _, _, _⟩) (v := ?_) rfl (by kernel_rfl) (by kernel_rfl) (by kernel_rfl) (fun _ _ _ h => h) (Or.inl ⟨by rfl, ?_⟩) (by assumption) ?_
        rotate_left
        · intro w hSw; (try dsimp only at hSw); go_simp <;> with_reducible rfl
        try simp only [Act.put, List.setIfInBounds_toArray, List.set_cons_zero, List.set_cons_succ]
        refine wpAnyH_take (i := 13) (oi := ⟨some 48, _, _, _, _, _⟩) (v := ?_) rfl (by kernel_rfl) (by kernel_rfl) (by kernel_rfl) (fun _ _ _ h => h) (Or.inl ⟨by rfl, ?_⟩) (by assumption) ?_
        rotate_left
        · intro w hSw; (try dsimp only at hSw); go_simp <;> with_reducible rfl
        try simp only [Act.put, List.setIfInBounds_toArray, List.set_cons_zero, List.set_cons_succ]
        refine wpAnyH_take (i := 15) (oi := ⟨some 7, _, _, _, _, _⟩) (v := ?_) rfl (by kernel_rfl) (by kernel_rfl) (by kernel_rfl) (fun _ _ _ h => h) (Or.inl ⟨by rfl, ?_⟩) (by assumption) ?_
        rotate_left
        · intro w hSw; (try dsimp only at hSw); go_simp <;> with_reducible rfl
        try simp only [Act.put, List.setIfInBounds_toArray, List.set_cons_zero, List.set_cons_succ]
        refine wpAnyH_done (by kernel_rfl) ?_ _
        go_wp2_with (fail)
        go_ret2
        exact ⟨by rw [hp.out, hfo.out]; rfl, hn₀ ▸ (fS.out _ (by assumption)).2.2.2⟩
      · have hloI : ¬ (lo : Int) < (L : Int) := by omega
        rw [show decide (lo < L) = false from decide_eq_false hlL, Bool.false_and] at hfo
        replace hfo := hid hfo
        clear cFF
        have f4 := fun n => qB.drewN n
        replace f4 := hid f4
        go_upto_region 8 with (fail)
        go_quiet (fail)
        go_wp2_with (fail)
        go_ret2
        exact ⟨by rw [hp.out, hfo.out]; rfl, by first | exact f4.out _ | exact hn₀ ▸ f4.out _⟩
end Go.Proofs.Ytomgjapjeckokaa
