/- The order of keys; the walks of codexlaw06's Rising and the reference's Find (printed by gen_iys.py). -/
import Derived.Test.YtomgjapjeckokaaIyQ
import Derived.Deep.RegionHeld3
namespace Go.Proofs.Ytomgjapjeckokaa
open Go.RowKit Go.Shelf Go.Lib

theorem cmp_zero : ∀ {a b : List UInt8}, compareBytes a b = 0 ↔ a = b
  | [], [] => by simp [compareBytes]
  | [], _ :: _ => by simp [compareBytes]
  | _ :: _, [] => by simp [compareBytes]
  | x :: a, y :: b => by
    rw [compareBytes]
    split
    · rename_i h
      constructor
      · intro h9; cases h9
      · intro h9; cases h9; exact absurd h (UInt8.lt_irrefl _)
    · split
      · rename_i h
        constructor
        · intro h9; cases h9
        · intro h9; cases h9; exact absurd h (UInt8.lt_irrefl _)
      · rename_i h1 h2
        rw [cmp_zero]
        have h3 := UInt8.not_lt.1 h1
        have h4 := UInt8.not_lt.1 h2
        have h5 := UInt8.le_antisymm h4 h3
        constructor
        · rintro rfl; rw [h5]
        · intro h9; exact (List.cons.inj h9).2
theorem cmp_swap : ∀ {a b : List UInt8}, compareBytes b a = - compareBytes a b
  | [], [] => by simp [compareBytes]
  | [], _ :: _ => by simp [compareBytes]
  | _ :: _, [] => by simp [compareBytes]
  | x :: a, y :: b => by
    rw [compareBytes, compareBytes]
    by_cases h1 : x < y
    · have h2 : ¬ y < x := fun h => UInt8.lt_irrefl _ (UInt8.lt_trans h1 h)
      rw [if_neg h2, if_pos h1, if_pos h1]; rfl
    · by_cases h2 : y < x
      · rw [if_pos h2, if_neg h1, if_pos h2]
      · rw [if_neg h2, if_neg h1, if_neg h1, if_neg h2]
        exact cmp_swap
theorem cmp_trans : ∀ {a b c : List UInt8}, compareBytes a b < 0 → compareBytes b c < 0 → compareBytes a c < 0
  | [], [], _, h, _ => by simp [compareBytes] at h
  | [], _ :: _, [], _, h => by simp [compareBytes] at h
  | [], _ :: _, _ :: _, _, _ => by simp [compareBytes]
  | _ :: _, [], _, h, _ => by simp [compareBytes] at h
  | _ :: _, _ :: _, [], _, h => by simp [compareBytes] at h
  | x :: a, y :: b, z :: c, h1, h2 => by
    rw [compareBytes] at h1 h2 ⊢
    by_cases hxy : x < y
    · by_cases hyz : y < z
      · rw [if_pos (UInt8.lt_trans hxy hyz)]; decide
      · rw [if_neg hyz] at h2
        by_cases hzy : z < y
        · rw [if_pos hzy] at h2; exact absurd h2 (by decide)
        · have e : y = z := UInt8.le_antisymm (UInt8.not_lt.1 hzy) (UInt8.not_lt.1 hyz)
          subst e
          rw [if_pos hxy]; decide
    · rw [if_neg hxy] at h1
      by_cases hyx : y < x
      · rw [if_pos hyx] at h1; exact absurd h1 (by decide)
      · rw [if_neg hyx] at h1
        have e : x = y := UInt8.le_antisymm (UInt8.not_lt.1 hyx) (UInt8.not_lt.1 hxy)
        subst e
        by_cases hyz : x < z
        · rw [if_pos hyz]; decide
        · rw [if_neg hyz] at h2 ⊢
          by_cases hzy : z < x
          · rw [if_pos hzy] at h2; exact absurd h2 (by decide)
          · rw [if_neg hzy] at h2 ⊢
            exact cmp_trans h1 h2

theorem lessS_iff {a b : List UInt8} : lessS a b = true ↔ compareBytes a b < 0 := by unfold lessS; exact decide_eq_true_iff
theorem lessS_trans {a b c : List UInt8} (h : lessS a b = true) (k : lessS b c = true) : lessS a c = true := lessS_iff.2 (cmp_trans (lessS_iff.1 h) (lessS_iff.1 k))
theorem lessS_irrefl (a : List UInt8) : lessS a a = false := by
  unfold lessS
  rw [cmp_zero.2 rfl]; rfl
theorem lessS_asymm {a b : List UInt8} (h : lessS a b = true) : lessS b a = false := by
  cases h2 : lessS b a with
  | false => rfl
  | true => exact absurd (lessS_trans h h2) (by rw [lessS_irrefl]; decide)
theorem lessS_total {a b : List UInt8} (h : lessS a b = false) (h2 : lessS b a = false) : a = b := by
  unfold lessS at h h2
  rw [decide_eq_false_iff_not] at h h2
  rw [cmp_swap (a := a) (b := b)] at h2
  exact cmp_zero.1 (by omega)
theorem cmpS_zero {a b : List UInt8} : cmpS a b = 0 ↔ a = b := by
  unfold cmpS
  constructor
  · intro h
    cases h1 : lessS a b with
    | true => rw [h1] at h; simp at h
    | false =>
      cases h2 : lessS b a with
      | true => rw [h1, h2] at h; simp at h
      | false => exact lessS_total h1 h2
  · rintro rfl
    rw [lessS_irrefl]; simp
theorem rises_step {l : List Ent} (h : risesL l = true) {i : Nat} (hi : i + 1 < l.length) : lessS (keyAt l i) (keyAt l (i + 1)) = true := by
  unfold risesL risesTo at h
  simp only [List.all_eq_true, List.mem_range] at h
  have := h (i + 1) hi
  simpa using this
theorem rises_lt {l : List Ent} (h : risesL l = true) {a : Nat} : ∀ (d : Nat), a + d + 1 < l.length → lessS (keyAt l a) (keyAt l (a + d + 1)) = true
  | 0, hd => rises_step h hd
  | d + 1, hd => lessS_trans (rises_lt h d (by omega)) (rises_step h (i := a + d + 1) (by omega))
theorem rises_all {l : List Ent} (h : ∀ i, i + 1 < l.length → lessS (keyAt l i) (keyAt l (i + 1)) = true) : risesL l = true := by
  unfold risesL risesTo
  simp only [List.all_eq_true, List.mem_range]
  intro i hi
  cases i with
  | zero => rfl
  | succ i => simpa using h i hi
theorem rises_mono {l : List Ent} (h : risesL l = true) (key : List UInt8) : MonoL l key := by
  intro a b hab hb hl
  by_cases e : a = b
  · rw [e]; exact hl
  · have h9 := rises_lt h (a := a) (b - a - 1) (by omega)
    rw [show a + (b - a - 1) + 1 = b by omega] at h9
    exact lessS_trans h9 hl
theorem posL_first {l : List Ent} {key : List UInt8} {n : Nat} (hn : n ≤ l.length) (h1 : ∀ t, t < n → lessS (keyAt l t) key = true) (h2 : n < l.length → lessS (keyAt l n) key = false) : posL l key = n := by
  unfold posL
  by_cases h : n < l.length
  · rw [List.findIdx_eq h]
    refine ⟨?_, fun j hj => ?_⟩
    · have := h2 h
      rw [keyAt_of (List.getElem?_eq_getElem h)] at this
      simp [this]
    · have := h1 j hj
      rw [keyAt_of (List.getElem?_eq_getElem (by omega))] at this
      simp [this]
  · obtain rfl : n = l.length := by omega
    rw [List.findIdx_eq_length]
    intro x hx
    obtain ⟨t, ht, rfl⟩ := List.getElem_of_mem hx
    have := h1 t ht
    rw [keyAt_of (List.getElem?_eq_getElem ht)] at this
    simp [this]
theorem foundL_is {l : List Ent} {key : List UInt8} : foundL l key = (decide (posL l key < l.length) && decide (keyAt l (posL l key) = key)) := by
  unfold foundL
  congr 1
  exact decide_eq_decide.2 cmpS_zero

set_option maxRecDepth 100000 in
set_option maxHeartbeats 1000000 in
theorem Rising_any (l : List Ent) (v : Value) (w : World) (hs : Sl w 35 encE v l) (hk : ∀ e ∈ l, e.key.length = 32) (hl : l.length ≤ 1000000) :
    Calls Try.prog 21 #[v] w fun e w' => e = .returned (.bool (risesL l)) ∧ Below w.heap.size w w' := by
  obtain ⟨n₀, hn₀⟩ : ∃ n, w.heap.size = n := ⟨_, rfl⟩
  obtain ⟨p, cp, rfl, -⟩ := hs.shape
  have hsB : ∀ W, Below n₀ w W → Sl W 35 encE (.slice p l.length cp) l := fun W hB => (Kept.of_below (hn₀ ▸ hB : Below w.heap.size w W) 0).sl hs
  obtain ⟨L, hL⟩ : ∃ x, l.length = x := ⟨_, rfl⟩
  rw [hL] at hsB hl ⊢
  obtain ⟨res, hres⟩ : ∃ r, risesL l = r := ⟨_, rfl⟩
  rw [hres, hn₀]
  have B0 : Below n₀ w w := Below.refl _ _
  replace hL := hid hL
  replace hsB := hid hsB
  replace hres := hid hres
  clear hs
  go_enter Try.func21, Try.ntmps21
  go_wp2_with (fail)
  go_loopw [3] (fun iv wr => ∃ j : Nat, j + 1 ≤ max 1 L ∧ iv = .int .i64 ((j + 1 : Nat) : Int) ∧ risesTo l (j + 1) = true ∧ Below n₀ w wr) (fun iv _ => L + 1 - (RowKit.intOf iv).toNat)
  case atStart => exact ⟨0, by omega, rfl, rfl, B0⟩
  case round =>
    obtain ⟨j, hj, rfl, hacc, qB⟩ := hrel
    clear B0
    obtain ⟨J, hJ⟩ : ∃ J, j + 1 = J := ⟨_, rfl⟩
    rw [hJ]
    by_cases hlt : J < L
    · have hkI : (J : Int) < (L : Int) := by omega
      have hJw : IntKind.i64.wrap ((J : Int) - 1) = (j : Int) := by rw [IntKind.wrap_i64]; omega
      have hjI : (j : Int) < (L : Int) := by omega
      obtain ⟨xa, hxa⟩ : ∃ e, l[j]? = some e := ⟨_, List.getElem?_eq_getElem (by rw [hL.out]; omega)⟩
      obtain ⟨xb, hxb⟩ : ∃ e, l[J]? = some e := ⟨_, List.getElem?_eq_getElem (by rw [hL.out]; omega)⟩
      have hka := hk xa (List.mem_of_getElem? hxa)
      have hkb := hk xb (List.mem_of_getElem? hxb)
      obtain ⟨b, o, c, he, -, -, hc⟩ := (hsB.out _ qB).open (by rintro rfl; simp at hxa)
      obtain ⟨rfl, -, rfl⟩ := Value.slice.inj he
      clear he
      have hra := range_key (hc j xa hxa)
      have hrb := range_key (hc J xb hxb)
      have hka2 : keyAt l j = xa.key := keyAt_of hxa
      have hkb2 : keyAt l J = xb.key := keyAt_of hxb
      have hstep : risesTo l (J + 1) = lessS xa.key xb.key := by
        rw [risesTo_succ, ← hJ, hacc, hJ, hkb2, show J - 1 = j by omega, hka2, Bool.true_and]
        rw [show (J == 0) = false by simp; omega, Bool.false_or]
      have cL := hid (fun W => rLess_any xa.key xb.key W hka hkb)
      have hia : (Try.prog.info? 46).map (·.size) = some (keyV xa.key).length := by rw [keyV_len, hka]; kernel_rfl
      have hib : (Try.prog.info? 46).map (·.size) = some (keyV xb.key).length := by rw [keyV_len, hkb]; kernel_rfl
      obtain ⟨d, hd⟩ : ∃ d, lessS xa.key xb.key = d := ⟨_, rfl⟩
      rw [hd] at cL hstep
      clear hd hka2 hkb2 hka hkb
      obtain ⟨ka, hkae⟩ : ∃ k, xa.key = k := ⟨_, rfl⟩
      obtain ⟨kb, hkbe⟩ : ∃ k, xb.key = k := ⟨_, rfl⟩
      rw [hkae] at cL hia hra
      rw [hkbe] at cL hib hrb
      have hst : (fun W => W.rangeAt b (o + j * 35) (keyV ka) ∧ W.rangeAt b (o + (j + 1) * 35) (keyV kb)) wr.drew := ⟨hra, by rw [hJ]; exact hrb⟩
      have qB2 : Below n₀ w wr.drew := qB.drewN 1
      clear hc hxa hxb hkae hkbe hra hrb
      replace hstep := hid hstep
      replace hacc := hid hacc
      have hJ2 : (j + 1) * 35 = J * 35 := by rw [hJ]
      rw [hJ2] at hst
      replace hJ := hid hJ
      clear hJ2
      go_upto_region 4 with (fail)
      refine wp_region_held_drew (S := (fun W => W.rangeAt b (o + j * 35) (keyV ka) ∧ W.rangeAt b (o + J * 35) (keyV kb))) (by kernel_rfl) hst (fun hHeld => ?_)
      generalize wr.drew = W5 at *
      refine wpAnyH_take (i := 0) (oi := ⟨some 10, _, _, _, _, _⟩) (v := ?_) rfl (by kernel_rfl) (by kernel_rfl) (by kernel_rfl) (fun _ _ _ h => h) (Or.inl ⟨by rfl, ?_⟩) (by assumption) ?_
      rotate_left
      · intro w hSw; (try dsimp only at hSw); go_simp <;> with_reducible rfl
      try simp only [Act.put, List.setIfInBounds_toArray, List.set_cons_zero, List.set_cons_succ]
      refine wpAnyH_take (i := 1) (oi := ⟨some 11, _, _, _, _, _⟩) (v := ?_) rfl (by kernel_rfl) (by kernel_rfl) (by kernel_rfl) (fun _ _ _ h => h) (Or.inl ⟨by rfl, ?_⟩) (by assumption) ?_
      rotate_left
      · intro w hSw; (try dsimp only at hSw); go_simp <;> with_reducible rfl
      try simp only [Act.put, List.setIfInBounds_toArray, List.set_cons_zero, List.set_cons_succ]
      refine wpAnyH_take (i := 2) (oi := ⟨some 12, _, _, _, _, _⟩) (v := ?_) rfl (by kernel_rfl) (by kernel_rfl) (by kernel_rfl) (fun _ _ _ h => h) (Or.inl ⟨by rfl, ?_⟩) (by assumption) ?_
      rotate_left
      · intro w hSw; (try dsimp only at hSw); go_simp <;> with_reducible rfl
      try simp only [Act.put, List.setIfInBounds_toArray, List.set_cons_zero, List.set_cons_succ]
      refine wpAnyH_take (i := 3) (oi := ⟨some 13, _, _, _, _, _⟩) (v := ?_) rfl (by kernel_rfl) (by kernel_rfl) (by kernel_rfl) (fun _ _ _ h => h) (Or.inl ⟨by rfl, ?_⟩) (by assumption) ?_
      rotate_left
      · intro w hSw; (try dsimp only at hSw); go_simp <;> with_reducible rfl
      try simp only [Act.put, List.setIfInBounds_toArray, List.set_cons_zero, List.set_cons_succ]
      refine wpAnyH_take (i := 4) (oi := ⟨some 14, _, _, _, _, _⟩) (v := ?_) rfl (by kernel_rfl) (by kernel_rfl) (by kernel_rfl) (fun _ _ _ h => h) (Or.inl ⟨by rfl, ?_⟩) (by assumption) ?_
      rotate_left
      · intro w hSw; (try dsimp only at hSw); go_simp <;> with_reducible rfl
      try simp only [Act.put, List.setIfInBounds_toArray, List.set_cons_zero, List.set_cons_succ]
      refine wpAnyH_take (i := 5) (oi := ⟨some 15, _, _, _, _, _⟩) rfl (by kernel_rfl) (by kernel_rfl) (by kernel_rfl) (fun _ _ _ h => h) (yieldsIf_load_mid (by rfl) 46 _ rfl b (o + j * 35) rfl (keyV ka) _ (fun w h => h.1) Try.underlying46 rfl hia) (by assumption) ?_
      try simp only [Act.put, List.setIfInBounds_toArray, List.set_cons_zero, List.set_cons_succ]
      refine wpAnyH_take (i := 6) (oi := ⟨some 16, _, _, _, _, _⟩) (v := ?_) rfl (by kernel_rfl) (by kernel_rfl) (by kernel_rfl) (fun _ _ _ h => h) (Or.inl ⟨by rfl, ?_⟩) (by assumption) ?_
      rotate_left
      · intro w hSw; (try dsimp only at hSw); go_simp <;> with_reducible rfl
      try simp only [Act.put, List.setIfInBounds_toArray, List.set_cons_zero, List.set_cons_succ]
      refine wpAnyH_take (i := 7) (oi := ⟨some 17, _, _, _, _, _⟩) (v := ?_) rfl (by kernel_rfl) (by kernel_rfl) (by kernel_rfl) (fun _ _ _ h => h) (Or.inl ⟨by rfl, ?_⟩) (by assumption) ?_
      rotate_left
      · intro w hSw; (try dsimp only at hSw); go_simp <;> with_reducible rfl
      try simp only [Act.put, List.setIfInBounds_toArray, List.set_cons_zero, List.set_cons_succ]
      refine wpAnyH_take (i := 8) (oi := ⟨some 18, _, _, _, _, _⟩) (v := ?_) rfl (by kernel_rfl) (by kernel_rfl) (by kernel_rfl) (fun _ _ _ h => h) (Or.inl ⟨by rfl, ?_⟩) (by assumption) ?_
      rotate_left
      · intro w hSw; (try dsimp only at hSw); go_simp <;> with_reducible rfl
      try simp only [Act.put, List.setIfInBounds_toArray, List.set_cons_zero, List.set_cons_succ]
      refine wpAnyH_take (i := 9) (oi := ⟨some 19, _, _, _, _, _⟩) (v := ?_) rfl (by kernel_rfl) (by kernel_rfl) (by kernel_rfl) (fun _ _ _ h => h) (Or.inl ⟨by rfl, ?_⟩) (by assumption) ?_
      rotate_left
      · intro w hSw; (try dsimp only at hSw); go_simp <;> with_reducible rfl
      try simp only [Act.put, List.setIfInBounds_toArray, List.set_cons_zero, List.set_cons_succ]
      refine wpAnyH_take (i := 10) (oi := ⟨some 20, _, _, _, _, _⟩) rfl (by kernel_rfl) (by kernel_rfl) (by kernel_rfl) (fun _ _ _ h => h) (yieldsIf_load_mid (by rfl) 46 _ rfl b (o + J * 35) rfl (keyV kb) _ (fun w h => h.2) Try.underlying46 rfl hib) (by assumption) ?_
      try simp only [Act.put, List.setIfInBounds_toArray, List.set_cons_zero, List.set_cons_succ]
      refine wpAnyH_ready (rs := [11]) (by kernel_rfl) (by simp) ?_
      refine AllReadyH.cons rfl (fun K hK => ?_) AllReadyH.nil
      go_simp
      refine (cL.out _).mono ?_
      rintro r w7 ⟨rfl, b7⟩
      refine hK.out _ _ (⟨(Kept.of_below b7 0).range hHeld.1, (Kept.of_below b7 0).range hHeld.2⟩) (fun hHeld => ?_)
      clear hK K
      try simp only [Act.put, List.setIfInBounds_toArray, List.set_cons_zero, List.set_cons_succ]
      refine wpAnyH_take (i := 12) (oi := ⟨some 22, _, _, _, _, _⟩) (v := ?_) rfl (by kernel_rfl) (by kernel_rfl) (by kernel_rfl) (fun _ _ _ h => h) (Or.inl ⟨by rfl, ?_⟩) (by assumption) ?_
      rotate_left
      · intro w hSw; (try dsimp only at hSw); go_simp <;> with_reducible rfl
      try simp only [Act.put, List.setIfInBounds_toArray, List.set_cons_zero, List.set_cons_succ]
      refine wpAnyH_done (by kernel_rfl) ?_ _
      skip
      have B7 := qB2.trans (b7.mono (by have := qB2.size; omega))
      clear hst hHeld qB qB2 b7 cL hia hib
      cases d with
      | true =>
        replace B7 := hid B7
        go_wp2_with (fail)
        refine ⟨?_, ?_⟩
        · first | exact ⟨J, by omega, by go_num, hstep.out, B7.out⟩ | ((repeat apply Exists.intro); refine ⟨?_, rfl⟩; exact ⟨J, by omega, by go_num, hstep.out, B7.out⟩)
        · simp [RowKit.intOf]; omega
      | false =>
        have hr2 : res = false := by
          rw [← hres.out]
          unfold risesL
          rw [hL.out]
          exact risesTo_stop hstep.out (by omega)
        clear hres
        subst hr2
        go_wp2_with (fail)
        go_ret
        exact ⟨rfl, B7⟩
    · have hkI : ¬ (J : Int) < (L : Int) := by omega
      have hr2 : res = true := by
        rw [← hres.out]
        unfold risesL
        rw [hL.out]
        by_cases h0 : L = 0
        · rw [h0]; rfl
        · rw [show L = j + 1 by omega]; exact hacc
      clear hres hacc
      subst hr2
      go_wp2_with (fail)
      go_ret
      exact ⟨rfl, qB⟩

set_option maxRecDepth 100000 in
set_option maxHeartbeats 1000000 in
theorem rFind_any (l : List Ent) (key : List UInt8) (v : Value) (w : World) (hs : Sl w 35 encE v l) (hk : ∀ e ∈ l, e.key.length = 32) (hk2 : key.length = 32) (hl : l.length ≤ 1000000) :
    Calls Try.prog 23 #[v, .agg (rowU key)] w fun e w' => e = .returned (.tuple #[.int .i64 (posL l key : Nat), .bool (foundL l key)]) ∧ Below w.heap.size w w' := by
  obtain ⟨n₀, hn₀⟩ : ∃ n, w.heap.size = n := ⟨_, rfl⟩
  obtain ⟨p, cp, rfl, -⟩ := hs.shape
  have hsB : ∀ W, Below n₀ w W → Sl W 35 encE (.slice p l.length cp) l := fun W hB => (Kept.of_below (hn₀ ▸ hB : Below w.heap.size w W) 0).sl hs
  have g0 := World.alloc_heap_new w (.cells (rowU key) 46)
  rw [hn₀] at g0
  have B0 : Below n₀ w (w.alloc (.cells (rowU key) 46)) := by rw [← hn₀]; exact (Below.refl _ w).alloc (Nat.le_refl _) _
  have hik : (Try.prog.info? 46).map (·.size) = some (keyV key).length := by rw [keyV_len, hk2]; kernel_rfl
  obtain ⟨W1, hW1⟩ : ∃ W : World, W = w.alloc (.cells (rowU key) 46) := ⟨_, rfl⟩
  rw [← hW1] at g0 B0
  obtain ⟨L, hL⟩ : ∃ x, l.length = x := ⟨_, rfl⟩
  rw [hL] at hsB hl ⊢
  obtain ⟨ps, hps⟩ : ∃ r, posL l key = r := ⟨_, rfl⟩
  obtain ⟨fb, hfb⟩ : ∃ r, foundL l key = r := ⟨_, rfl⟩
  rw [hps, hfb, hn₀]
  replace hL := hid hL
  replace hsB := hid hsB
  replace hps := hid hps
  replace hfb := hid hfb
  clear hs
  go_enter Try.func23, Try.ntmps23
  go_upto_region 1 with (fail)
  rw [← hW1]
  clear hW1
  go_wp2_with (fail)
  go_loopw [6] (fun iv wr => ∃ k : Nat, k ≤ L ∧ iv = .int .i64 k ∧ (∀ t, t < k → lessS (keyAt l t) key = true) ∧ wr.heap[n₀]? = some (.cells (rowU key) 46 (0, 0)) ∧ Below n₀ w wr) (fun iv _ => L - (RowKit.intOf iv).toNat)
  case atStart => exact ⟨0, Nat.zero_le _, rfl, fun t ht => absurd ht (Nat.not_lt_zero _), g0, B0⟩
  case round =>
    obtain ⟨k, hkL, rfl, hacc, q0, qB⟩ := hrel
    clear B0 g0
    by_cases hlt : k < L
    · have hkI : (k : Int) < (L : Int) := by omega
      obtain ⟨xa, hxa⟩ : ∃ e, l[k]? = some e := ⟨_, List.getElem?_eq_getElem (by rw [hL.out]; omega)⟩
      have hka := hk xa (List.mem_of_getElem? hxa)
      obtain ⟨b, o, c, he, -, -, hc⟩ := (hsB.out _ qB).open (by rintro rfl; simp at hxa)
      obtain ⟨rfl, -, rfl⟩ := Value.slice.inj he
      clear he
      have hra := range_key (hc k xa hxa)
      have hka2 : keyAt l k = xa.key := keyAt_of hxa
      have cL := hid (fun W => rLess_any xa.key key W hka hk2)
      have hia : (Try.prog.info? 46).map (·.size) = some (keyV xa.key).length := by rw [keyV_len, hka]; kernel_rfl
      obtain ⟨ka, hkae⟩ : ∃ k, xa.key = k := ⟨_, rfl⟩
      rw [hkae] at cL hia hra hka2 hka
      obtain ⟨d, hd⟩ : ∃ d, lessS ka key = d := ⟨_, rfl⟩
      rw [hd] at cL
      have hst : (fun W => W.rangeAt b (o + k * 35) (keyV ka) ∧ W.rangeAt n₀ 0 (keyV key)) wr.drew := ⟨hra, range_blk (w := wr.drew) (cs := keyV key) q0⟩
      have qB2 : Below n₀ w wr.drew := qB.drewN 1
      have q02 : wr.drew.heap[n₀]? = some (.cells (rowU key) 46 (0, 0)) := q0
      clear hc hxa hkae hra qB q0
      replace hd := hid hd
      replace hka2 := hid hka2
      replace hacc := hid hacc
      go_upto_region 2 with (fail)
      refine wp_region_held_drew (S := (fun W => W.rangeAt b (o + k * 35) (keyV ka) ∧ W.rangeAt n₀ 0 (keyV key))) (by kernel_rfl) hst (fun hHeld => ?_)
      generalize wr.drew = W5 at *
      refine wpAnyH_take (i := 0) (oi := ⟨some 7, _, _, _, _, _⟩) (v := ?_) rfl (by kernel_rfl) (by kernel_rfl) (by kernel_rfl) (fun _ _ _ h => h) (Or.inl ⟨by rfl, ?_⟩) (by assumption) ?_
      rotate_left
      · intro w hSw; (try dsimp only at hSw); go_simp <;> with_reducible rfl
      try simp only [Act.put, List.setIfInBounds_toArray, List.set_cons_zero, List.set_cons_succ]
      refine wpAnyH_take (i := 1) (oi := ⟨some 8, _, _, _, _, _⟩) (v := ?_) rfl (by kernel_rfl) (by kernel_rfl) (by kernel_rfl) (fun _ _ _ h => h) (Or.inl ⟨by rfl, ?_⟩) (by assumption) ?_
      rotate_left
      · intro w hSw; (try dsimp only at hSw); go_simp <;> with_reducible rfl
      try simp only [Act.put, List.setIfInBounds_toArray, List.set_cons_zero, List.set_cons_succ]
      refine wpAnyH_take (i := 2) (oi := ⟨some 9, _, _, _, _, _⟩) (v := ?_) rfl (by kernel_rfl) (by kernel_rfl) (by kernel_rfl) (fun _ _ _ h => h) (Or.inl ⟨by rfl, ?_⟩) (by assumption) ?_
      rotate_left
      · intro w hSw; (try dsimp only at hSw); go_simp <;> with_reducible rfl
      try simp only [Act.put, List.setIfInBounds_toArray, List.set_cons_zero, List.set_cons_succ]
      refine wpAnyH_take (i := 3) (oi := ⟨some 10, _, _, _, _, _⟩) (v := ?_) rfl (by kernel_rfl) (by kernel_rfl) (by kernel_rfl) (fun _ _ _ h => h) (Or.inl ⟨by rfl, ?_⟩) (by assumption) ?_
      rotate_left
      · intro w hSw; (try dsimp only at hSw); go_simp <;> with_reducible rfl
      try simp only [Act.put, List.setIfInBounds_toArray, List.set_cons_zero, List.set_cons_succ]
      refine wpAnyH_take (i := 4) (oi := ⟨some 11, _, _, _, _, _⟩) (v := ?_) rfl (by kernel_rfl) (by kernel_rfl) (by kernel_rfl) (fun _ _ _ h => h) (Or.inl ⟨by rfl, ?_⟩) (by assumption) ?_
      rotate_left
      · intro w hSw; (try dsimp only at hSw); go_simp <;> with_reducible rfl
      try simp only [Act.put, List.setIfInBounds_toArray, List.set_cons_zero, List.set_cons_succ]
      refine wpAnyH_take (i := 5) (oi := ⟨some 12, _, _, _, _, _⟩) (v := ?_) rfl (by kernel_rfl) (by kernel_rfl) (by kernel_rfl) (fun _ _ _ h => h) (Or.inl ⟨by rfl, ?_⟩) (by assumption) ?_
      rotate_left
      · intro w hSw; (try dsimp only at hSw); go_simp <;> with_reducible rfl
      try simp only [Act.put, List.setIfInBounds_toArray, List.set_cons_zero, List.set_cons_succ]
      refine wpAnyH_take (i := 6) (oi := ⟨some 13, _, _, _, _, _⟩) (v := ?_) rfl (by kernel_rfl) (by kernel_rfl) (by kernel_rfl) (fun _ _ _ h => h) (Or.inl ⟨by rfl, ?_⟩) (by assumption) ?_
      rotate_left
      · intro w hSw; (try dsimp only at hSw); go_simp <;> with_reducible rfl
      try simp only [Act.put, List.setIfInBounds_toArray, List.set_cons_zero, List.set_cons_succ]
      refine wpAnyH_take (i := 7) (oi := ⟨some 14, _, _, _, _, _⟩) (v := ?_) rfl (by kernel_rfl) (by kernel_rfl) (by kernel_rfl) (fun _ _ _ h => h) (Or.inl ⟨by rfl, ?_⟩) (by assumption) ?_
      rotate_left
      · intro w hSw; (try dsimp only at hSw); go_simp <;> with_reducible rfl
      try simp only [Act.put, List.setIfInBounds_toArray, List.set_cons_zero, List.set_cons_succ]
      refine wpAnyH_take (i := 8) (oi := ⟨some 15, _, _, _, _, _⟩) (v := ?_) rfl (by kernel_rfl) (by kernel_rfl) (by kernel_rfl) (fun _ _ _ h => h) (Or.inl ⟨by rfl, ?_⟩) (by assumption) ?_
      rotate_left
      · intro w hSw; (try dsimp only at hSw); go_simp <;> with_reducible rfl
      try simp only [Act.put, List.setIfInBounds_toArray, List.set_cons_zero, List.set_cons_succ]
      refine wpAnyH_take (i := 9) (oi := ⟨some 16, _, _, _, _, _⟩) rfl (by kernel_rfl) (by kernel_rfl) (by kernel_rfl) (fun _ _ _ h => h) (yieldsIf_load_mid (by rfl) 46 _ rfl b (o + k * 35) rfl (keyV ka) _ (fun w h => h.1) Try.underlying46 rfl hia) (by assumption) ?_
      try simp only [Act.put, List.setIfInBounds_toArray, List.set_cons_zero, List.set_cons_succ]
      refine wpAnyH_take (i := 10) (oi := ⟨some 17, _, _, _, _, _⟩) rfl (by kernel_rfl) (by kernel_rfl) (by kernel_rfl) (fun _ _ _ h => h) (yieldsIf_load_mid (by rfl) 46 _ rfl n₀ 0 rfl (keyV key) _ (fun w h => h.2) Try.underlying46 rfl hik) (by assumption) ?_
      try simp only [Act.put, List.setIfInBounds_toArray, List.set_cons_zero, List.set_cons_succ]
      refine wpAnyH_ready (rs := [11]) (by kernel_rfl) (by simp) ?_
      refine AllReadyH.cons rfl (fun K hK => ?_) AllReadyH.nil
      go_simp
      refine (cL.out _).mono ?_
      rintro r w7 ⟨rfl, b7⟩
      refine hK.out _ _ (⟨(Kept.of_below b7 0).range hHeld.1, (Kept.of_below b7 0).range hHeld.2⟩) (fun hHeld => ?_)
      clear hK K
      try simp only [Act.put, List.setIfInBounds_toArray, List.set_cons_zero, List.set_cons_succ]
      refine wpAnyH_take (i := 12) (oi := ⟨some 19, _, _, _, _, _⟩) (v := ?_) rfl (by kernel_rfl) (by kernel_rfl) (by kernel_rfl) (fun _ _ _ h => h) (Or.inl ⟨by rfl, ?_⟩) (by assumption) ?_
      rotate_left
      · intro w hSw; (try dsimp only at hSw); go_simp <;> with_reducible rfl
      try simp only [Act.put, List.setIfInBounds_toArray, List.set_cons_zero, List.set_cons_succ]
      refine wpAnyH_done (by kernel_rfl) ?_ _
      skip
      have B7 := qB2.trans (b7.mono (by have := qB2.size; omega))
      have q7 := (Kept.of_below b7 0).same _ _ q02 (.inl rfl)
      clear hst qB2 b7 cL q02
      cases d with
      | true =>
        have hacc2 : ∀ t, t < k + 1 → lessS (keyAt l t) key = true := fun t ht => by
          by_cases e : t = k
          · rw [e, hka2.out]; exact hd.out
          · exact hacc.out t (by omega)
        replace hacc2 := hid hacc2
        replace B7 := hid B7
        replace q7 := hid q7
        clear hHeld
        go_wp2_with (fail)
        refine ⟨?_, ?_⟩
        · first | exact ⟨k + 1, by omega, by go_num, hacc2.out, q7.out, B7.out⟩ | ((repeat apply Exists.intro); refine ⟨?_, rfl⟩; exact ⟨k + 1, by omega, by go_num, hacc2.out, q7.out, B7.out⟩)
        · simp [RowKit.intOf]; omega
      | false =>
        have hpk : ps = k := by rw [← hps.out]; exact posL_first (by rw [hL.out]; omega) hacc.out (fun _ => by rw [hka2.out]; exact hd.out)
        obtain ⟨d2, hd2⟩ : ∃ d, decide (ka = key) = d := ⟨_, rfl⟩
        have hfd : fb = d2 := by
          rw [← hfb.out, foundL_is, hps.out, hpk, hka2.out, hd2, hL.out, decide_eq_true hlt]; rfl
        have hq : ∀ W, (binOp .eql 46 (.agg (keyV ka).toArray) (.agg (keyV key).toArray)).run Try.prog W = .ok (.bool d2) W := fun W => by
          have h := run_eql_u8s (P := Try.prog) W (t := 46) (e := 5) (n := 32) Try.underlying46 Try.underlying5 (by kernel_rfl) (intsU ka) (intsU key) (by unfold intsU; rw [List.length_map, hka]) (by unfold intsU; rw [List.length_map, hk2])
          rw [← rowU_u8s, ← rowU_u8s] at h
          rw [show decide (intsU ka = intsU key) = d2 by rw [← hd2]; exact decide_eq_decide.2 ⟨intsU_inj, fun h => by rw [h]⟩] at h
          exact h
        have hst : (fun W => W.rangeAt b (o + k * 35) (keyV ka) ∧ W.rangeAt n₀ 0 (keyV key)) w7.drew := ⟨hHeld.1, hHeld.2⟩
        have B8 : Below n₀ w w7.drew := B7.drewN 1
        clear hd2 hHeld q7 B7 hps hfb
        replace hpk := hpk.symm
        subst hpk hfd
        replace hd := hid hd
        go_upto_region 4 with (fail)
        refine wp_region_held_drew (S := (fun W => W.rangeAt b (o + k * 35) (keyV ka) ∧ W.rangeAt n₀ 0 (keyV key))) (by kernel_rfl) hst (fun hHeld => ?_)
        refine wpAnyH_take (i := 0) (oi := ⟨some 22, _, _, _, _, _⟩) (v := ?_) rfl (by kernel_rfl) (by kernel_rfl) (by kernel_rfl) (fun _ _ _ h => h) (Or.inl ⟨by rfl, ?_⟩) (by assumption) ?_
        rotate_left
        · intro w hSw; (try dsimp only at hSw); go_simp <;> with_reducible rfl
        try simp only [Act.put, List.setIfInBounds_toArray, List.set_cons_zero, List.set_cons_succ]
        refine wpAnyH_take (i := 1) (oi := ⟨some 23, _, _, _, _, _⟩) (v := ?_) rfl (by kernel_rfl) (by kernel_rfl) (by kernel_rfl) (fun _ _ _ h => h) (Or.inl ⟨by rfl, ?_⟩) (by assumption) ?_
        rotate_left
        · intro w hSw; (try dsimp only at hSw); go_simp <;> with_reducible rfl
        try simp only [Act.put, List.setIfInBounds_toArray, List.set_cons_zero, List.set_cons_succ]
        refine wpAnyH_take (i := 2) (oi := ⟨some 24, _, _, _, _, _⟩) (v := ?_) rfl (by kernel_rfl) (by kernel_rfl) (by kernel_rfl) (fun _ _ _ h => h) (Or.inl ⟨by rfl, ?_⟩) (by assumption) ?_
        rotate_left
        · intro w hSw; (try dsimp only at hSw); go_simp <;> with_reducible rfl
        try simp only [Act.put, List.setIfInBounds_toArray, List.set_cons_zero, List.set_cons_succ]
        refine wpAnyH_take (i := 3) (oi := ⟨some 25, _, _, _, _, _⟩) (v := ?_) rfl (by kernel_rfl) (by kernel_rfl) (by kernel_rfl) (fun _ _ _ h => h) (Or.inl ⟨by rfl, ?_⟩) (by assumption) ?_
        rotate_left
        · intro w hSw; (try dsimp only at hSw); go_simp <;> with_reducible rfl
        try simp only [Act.put, List.setIfInBounds_toArray, List.set_cons_zero, List.set_cons_succ]
        refine wpAnyH_take (i := 4) (oi := ⟨some 26, _, _, _, _, _⟩) (v := ?_) rfl (by kernel_rfl) (by kernel_rfl) (by kernel_rfl) (fun _ _ _ h => h) (Or.inl ⟨by rfl, ?_⟩) (by assumption) ?_
        rotate_left
        · intro w hSw; (try dsimp only at hSw); go_simp <;> with_reducible rfl
        try simp only [Act.put, List.setIfInBounds_toArray, List.set_cons_zero, List.set_cons_succ]
        refine wpAnyH_take (i := 5) (oi := ⟨some 27, _, _, _, _, _⟩) (v := ?_) rfl (by kernel_rfl) (by kernel_rfl) (by kernel_rfl) (fun _ _ _ h => h) (Or.inl ⟨by rfl, ?_⟩) (by assumption) ?_
        rotate_left
        · intro w hSw; (try dsimp only at hSw); go_simp <;> with_reducible rfl
        try simp only [Act.put, List.setIfInBounds_toArray, List.set_cons_zero, List.set_cons_succ]
        refine wpAnyH_take (i := 14) (oi := ⟨some 4, _, _, _, _, _⟩) (v := ?_) rfl (by kernel_rfl) (by kernel_rfl) (by kernel_rfl) (fun _ _ _ h => h) (Or.inl ⟨by rfl, ?_⟩) (by assumption) ?_
        rotate_left
        · intro w hSw; (try dsimp only at hSw); go_simp <;> with_reducible rfl
        try simp only [Act.put, List.setIfInBounds_toArray, List.set_cons_zero, List.set_cons_succ]
        refine wpAnyH_take (i := 6) (oi := ⟨some 28, _, _, _, _, _⟩) (v := ?_) rfl (by kernel_rfl) (by kernel_rfl) (by kernel_rfl) (fun _ _ _ h => h) (Or.inl ⟨by rfl, ?_⟩) (by assumption) ?_
        rotate_left
        · intro w hSw; (try dsimp only at hSw); go_simp <;> with_reducible rfl
        try simp only [Act.put, List.setIfInBounds_toArray, List.set_cons_zero, List.set_cons_succ]
        refine wpAnyH_take (i := 7) (oi := ⟨some 29, _, _, _, _, _⟩) (v := ?_) rfl (by kernel_rfl) (by kernel_rfl) (by kernel_rfl) (fun _ _ _ h => h) (Or.inl ⟨by rfl, ?_⟩) (by assumption) ?_
        rotate_left
        · intro w hSw; (try dsimp only at hSw); go_simp <;> with_reducible rfl
        try simp only [Act.put, List.setIfInBounds_toArray, List.set_cons_zero, List.set_cons_succ]
        refine wpAnyH_take (i := 8) (oi := ⟨some 30, _, _, _, _, _⟩) (v := ?_) rfl (by kernel_rfl) (by kernel_rfl) (by kernel_rfl) (fun _ _ _ h => h) (Or.inl ⟨by rfl, ?_⟩) (by assumption) ?_
        rotate_left
        · intro w hSw; (try dsimp only at hSw); go_simp <;> with_reducible rfl
        try simp only [Act.put, List.setIfInBounds_toArray, List.set_cons_zero, List.set_cons_succ]
        refine wpAnyH_take (i := 9) (oi := ⟨some 31, _, _, _, _, _⟩) (v := ?_) rfl (by kernel_rfl) (by kernel_rfl) (by kernel_rfl) (fun _ _ _ h => h) (Or.inl ⟨by rfl, ?_⟩) (by assumption) ?_
        rotate_left
        · intro w hSw; (try dsimp only at hSw); go_simp <;> with_reducible rfl
        try simp only [Act.put, List.setIfInBounds_toArray, List.set_cons_zero, List.set_cons_succ]
        refine wpAnyH_take (i := 10) (oi := ⟨some 32, _, _, _, _, _⟩) rfl (by kernel_rfl) (by kernel_rfl) (by kernel_rfl) (fun _ _ _ h => h) (yieldsIf_load_mid (by rfl) 46 _ rfl b (o + k * 35) rfl (keyV ka) _ (fun w h => h.1) Try.underlying46 rfl hia) (by assumption) ?_
        try simp only [Act.put, List.setIfInBounds_toArray, List.set_cons_zero, List.set_cons_succ]
        refine wpAnyH_take (i := 11) (oi := ⟨some 33, _, _, _, _, _⟩) rfl (by kernel_rfl) (by kernel_rfl) (by kernel_rfl) (fun _ _ _ h => h) (yieldsIf_load_mid (by rfl) 46 _ rfl n₀ 0 rfl (keyV key) _ (fun w h => h.2) Try.underlying46 rfl hik) (by assumption) ?_
        try simp only [Act.put, List.setIfInBounds_toArray, List.set_cons_zero, List.set_cons_succ]
        refine wpAnyH_take (i := 12) (oi := ⟨some 34, _, _, _, _, _⟩) (v := ?_) rfl (by kernel_rfl) (by kernel_rfl) (by kernel_rfl) (fun _ _ _ h => h) (Or.inl ⟨by rfl, ?_⟩) (by assumption) ?_
        rotate_left
        · intro w hSw; (try dsimp only at hSw); go_simp <;> with_reducible rfl
        try simp only [Act.put, List.setIfInBounds_toArray, List.set_cons_zero, List.set_cons_succ]
        refine wpAnyH_take (i := 13) (oi := ⟨some 35, _, _, _, _, _⟩) (v := ?_) rfl (by kernel_rfl) (by kernel_rfl) (by kernel_rfl) (fun _ _ _ h => h) (Or.inl ⟨by rfl, ?_⟩) (by assumption) ?_
        rotate_left
        · intro w hSw; (try dsimp only at hSw); go_simp <;> with_reducible rfl
        try simp only [Act.put, List.setIfInBounds_toArray, List.set_cons_zero, List.set_cons_succ]
        refine wpAnyH_take (i := 15) (oi := ⟨some 5, _, _, _, _, _⟩) (v := ?_) rfl (by kernel_rfl) (by kernel_rfl) (by kernel_rfl) (fun _ _ _ h => h) (Or.inl ⟨by rfl, ?_⟩) (by assumption) ?_
        rotate_left
        · intro w hSw; (try dsimp only at hSw); go_simp <;> with_reducible rfl
        try simp only [Act.put, List.setIfInBounds_toArray, List.set_cons_zero, List.set_cons_succ]
        refine wpAnyH_done (by kernel_rfl) ?_ _
        skip
        go_wp2_with (fail)
        go_ret2
        exact ⟨rfl, B8⟩
    · obtain rfl : k = L := by omega
      have hpk : ps = k := by rw [← hps.out]; exact posL_first (by rw [hL.out]; omega) hacc (fun h => by rw [hL.out] at h; omega)
      have hfd : fb = false := by rw [← hfb.out, foundL_is, hps.out, hpk, hL.out, decide_eq_false (Nat.lt_irrefl _)]; rfl
      have hst : (fun W => W.rangeAt n₀ 0 (keyV key)) wr.drew := range_blk (w := wr.drew) (cs := keyV key) q0
      have qB2 : Below n₀ w wr.drew := qB.drewN 1
      clear hps hfb hacc q0 qB
      subst hpk hfd
      go_upto_region 2 with (fail)
      refine wp_region_held_drew (S := (fun W => W.rangeAt n₀ 0 (keyV key))) (by kernel_rfl) hst (fun hHeld => ?_)
      generalize wr.drew = W5 at *
      refine wpAnyH_take (i := 0) (oi := ⟨some 7, _, _, _, _, _⟩) (v := ?_) rfl (by kernel_rfl) (by kernel_rfl) (by kernel_rfl) (fun _ _ _ h => h) (Or.inl ⟨by rfl, ?_⟩) (by assumption) ?_
      rotate_left
      · intro w hSw; (try dsimp only at hSw); go_simp <;> with_reducible rfl
      try simp only [Act.put, List.setIfInBounds_toArray, List.set_cons_zero, List.set_cons_succ]
      refine wpAnyH_take (i := 1) (oi := ⟨some 8, _, _, _, _, _⟩) (v := ?_) rfl (by kernel_rfl) (by kernel_rfl) (by kernel_rfl) (fun _ _ _ h => h) (Or.inl ⟨by rfl, ?_⟩) (by assumption) ?_
      rotate_left
      · intro w hSw; (try dsimp only at hSw); go_simp <;> with_reducible rfl
      try simp only [Act.put, List.setIfInBounds_toArray, List.set_cons_zero, List.set_cons_succ]
      refine wpAnyH_take (i := 2) (oi := ⟨some 9, _, _, _, _, _⟩) (v := ?_) rfl (by kernel_rfl) (by kernel_rfl) (by kernel_rfl) (fun _ _ _ h => h) (Or.inl ⟨by rfl, ?_⟩) (by assumption) ?_
      rotate_left
      · intro w hSw; (try dsimp only at hSw); go_simp <;> with_reducible rfl
      try simp only [Act.put, List.setIfInBounds_toArray, List.set_cons_zero, List.set_cons_succ]
      refine wpAnyH_take (i := 3) (oi := ⟨some 10, _, _, _, _, _⟩) (v := ?_) rfl (by kernel_rfl) (by kernel_rfl) (by kernel_rfl) (fun _ _ _ h => h) (Or.inl ⟨by rfl, ?_⟩) (by assumption) ?_
      rotate_left
      · intro w hSw; (try dsimp only at hSw); go_simp <;> with_reducible rfl
      try simp only [Act.put, List.setIfInBounds_toArray, List.set_cons_zero, List.set_cons_succ]
      refine wpAnyH_take (i := 4) (oi := ⟨some 11, _, _, _, _, _⟩) (v := ?_) rfl (by kernel_rfl) (by kernel_rfl) (by kernel_rfl) (fun _ _ _ h => h) (Or.inl ⟨by rfl, ?_⟩) (by assumption) ?_
      rotate_left
      · intro w hSw; (try dsimp only at hSw); go_simp <;> with_reducible rfl
      try simp only [Act.put, List.setIfInBounds_toArray, List.set_cons_zero, List.set_cons_succ]
      refine wpAnyH_take (i := 5) (oi := ⟨some 12, _, _, _, _, _⟩) rfl (by kernel_rfl) (by kernel_rfl) (by kernel_rfl) (fun _ _ _ h => h) (Or.inr ⟨by rfl, rfl⟩) (by assumption) ?_
      try simp only [Act.put, List.setIfInBounds_toArray, List.set_cons_zero, List.set_cons_succ]
      refine wpAnyH_take (i := 6) (oi := ⟨some 13, _, _, _, _, _⟩) rfl (by kernel_rfl) (by kernel_rfl) (by kernel_rfl) (fun _ _ _ h => h) (Or.inr ⟨by rfl, rfl⟩) (by assumption) ?_
      try simp only [Act.put, List.setIfInBounds_toArray, List.set_cons_zero, List.set_cons_succ]
      refine wpAnyH_take (i := 7) (oi := ⟨some 14, _, _, _, _, _⟩) rfl (by kernel_rfl) (by kernel_rfl) (by kernel_rfl) (fun _ _ _ h => h) (Or.inr ⟨by rfl, rfl⟩) (by assumption) ?_
      try simp only [Act.put, List.setIfInBounds_toArray, List.set_cons_zero, List.set_cons_succ]
      refine wpAnyH_take (i := 8) (oi := ⟨some 15, _, _, _, _, _⟩) rfl (by kernel_rfl) (by kernel_rfl) (by kernel_rfl) (fun _ _ _ h => h) (Or.inr ⟨by rfl, rfl⟩) (by assumption) ?_
      try simp only [Act.put, List.setIfInBounds_toArray, List.set_cons_zero, List.set_cons_succ]
      refine wpAnyH_take (i := 9) (oi := ⟨some 16, _, _, _, _, _⟩) rfl (by kernel_rfl) (by kernel_rfl) (by kernel_rfl) (fun _ _ _ h => h) (Or.inr ⟨by rfl, rfl⟩) (by assumption) ?_
      try simp only [Act.put, List.setIfInBounds_toArray, List.set_cons_zero, List.set_cons_succ]
      refine wpAnyH_take (i := 10) (oi := ⟨some 17, _, _, _, _, _⟩) rfl (by kernel_rfl) (by kernel_rfl) (by kernel_rfl) (fun _ _ _ h => h) (Or.inr ⟨by rfl, rfl⟩) (by assumption) ?_
      try simp only [Act.put, List.setIfInBounds_toArray, List.set_cons_zero, List.set_cons_succ]
      refine wpAnyH_take (i := 11) (oi := ⟨some 18, _, _, _, _, _⟩) rfl (by kernel_rfl) (by kernel_rfl) (by kernel_rfl) (fun _ _ _ h => h) (Or.inr ⟨by rfl, rfl⟩) (by assumption) ?_
      try simp only [Act.put, List.setIfInBounds_toArray, List.set_cons_zero, List.set_cons_succ]
      refine wpAnyH_take (i := 12) (oi := ⟨some 19, _, _, _, _, _⟩) (v := ?_) rfl (by kernel_rfl) (by kernel_rfl) (by kernel_rfl) (fun _ _ _ h => h) (Or.inl ⟨by rfl, ?_⟩) (by assumption) ?_
      rotate_left
      · intro w hSw; (try dsimp only at hSw); go_simp <;> with_reducible rfl
      try simp only [Act.put, List.setIfInBounds_toArray, List.set_cons_zero, List.set_cons_succ]
      refine wpAnyH_done (by kernel_rfl) ?_ _
      skip
      clear hst
      have hst : (fun W => W.rangeAt n₀ 0 (keyV key)) W5.drew := hHeld
      have B8 : Below n₀ w W5.drew := qB2.drewN 1
      clear qB2 hHeld
      go_upto_region 4 with (fail)
      refine wp_region_held_drew (S := (fun W => W.rangeAt n₀ 0 (keyV key))) (by kernel_rfl) hst (fun hHeld => ?_)
      refine wpAnyH_take (i := 0) (oi := ⟨some 22, _, _, _, _, _⟩) (v := ?_) rfl (by kernel_rfl) (by kernel_rfl) (by kernel_rfl) (fun _ _ _ h => h) (Or.inl ⟨by rfl, ?_⟩) (by assumption) ?_
      rotate_left
      · intro w hSw; (try dsimp only at hSw); go_simp <;> with_reducible rfl
      try simp only [Act.put, List.setIfInBounds_toArray, List.set_cons_zero, List.set_cons_succ]
      refine wpAnyH_take (i := 1) (oi := ⟨some 23, _, _, _, _, _⟩) (v := ?_) rfl (by kernel_rfl) (by kernel_rfl) (by kernel_rfl) (fun _ _ _ h => h) (Or.inl ⟨by rfl, ?_⟩) (by assumption) ?_
      rotate_left
      · intro w hSw; (try dsimp only at hSw); go_simp <;> with_reducible rfl
      try simp only [Act.put, List.setIfInBounds_toArray, List.set_cons_zero, List.set_cons_succ]
      refine wpAnyH_take (i := 2) (oi := ⟨some 24, _, _, _, _, _⟩) (v := ?_) rfl (by kernel_rfl) (by kernel_rfl) (by kernel_rfl) (fun _ _ _ h => h) (Or.inl ⟨by rfl, ?_⟩) (by assumption) ?_
      rotate_left
      · intro w hSw; (try dsimp only at hSw); go_simp <;> with_reducible rfl
      try simp only [Act.put, List.setIfInBounds_toArray, List.set_cons_zero, List.set_cons_succ]
      refine wpAnyH_take (i := 3) (oi := ⟨some 25, _, _, _, _, _⟩) (v := ?_) rfl (by kernel_rfl) (by kernel_rfl) (by kernel_rfl) (fun _ _ _ h => h) (Or.inl ⟨by rfl, ?_⟩) (by assumption) ?_
      rotate_left
      · intro w hSw; (try dsimp only at hSw); go_simp <;> with_reducible rfl
      try simp only [Act.put, List.setIfInBounds_toArray, List.set_cons_zero, List.set_cons_succ]
      refine wpAnyH_take (i := 4) (oi := ⟨some 26, _, _, _, _, _⟩) (v := ?_) rfl (by kernel_rfl) (by kernel_rfl) (by kernel_rfl) (fun _ _ _ h => h) (Or.inl ⟨by rfl, ?_⟩) (by assumption) ?_
      rotate_left
      · intro w hSw; (try dsimp only at hSw); go_simp <;> with_reducible rfl
      try simp only [Act.put, List.setIfInBounds_toArray, List.set_cons_zero, List.set_cons_succ]
      refine wpAnyH_take (i := 5) (oi := ⟨some 27, _, _, _, _, _⟩) (v := ?_) rfl (by kernel_rfl) (by kernel_rfl) (by kernel_rfl) (fun _ _ _ h => h) (Or.inl ⟨by rfl, ?_⟩) (by assumption) ?_
      rotate_left
      · intro w hSw; (try dsimp only at hSw); go_simp <;> with_reducible rfl
      try simp only [Act.put, List.setIfInBounds_toArray, List.set_cons_zero, List.set_cons_succ]
      refine wpAnyH_take (i := 14) (oi := ⟨some 4, _, _, _, _, _⟩) (v := ?_) rfl (by kernel_rfl) (by kernel_rfl) (by kernel_rfl) (fun _ _ _ h => h) (Or.inl ⟨by rfl, ?_⟩) (by assumption) ?_
      rotate_left
      · intro w hSw; (try dsimp only at hSw); go_simp <;> with_reducible rfl
      try simp only [Act.put, List.setIfInBounds_toArray, List.set_cons_zero, List.set_cons_succ]
      refine wpAnyH_take (i := 6) (oi := ⟨some 28, _, _, _, _, _⟩) rfl (by kernel_rfl) (by kernel_rfl) (by kernel_rfl) (fun _ _ _ h => h) (Or.inr ⟨by rfl, rfl⟩) (by assumption) ?_
      try simp only [Act.put, List.setIfInBounds_toArray, List.set_cons_zero, List.set_cons_succ]
      refine wpAnyH_take (i := 7) (oi := ⟨some 29, _, _, _, _, _⟩) rfl (by kernel_rfl) (by kernel_rfl) (by kernel_rfl) (fun _ _ _ h => h) (Or.inr ⟨by rfl, rfl⟩) (by assumption) ?_
      try simp only [Act.put, List.setIfInBounds_toArray, List.set_cons_zero, List.set_cons_succ]
      refine wpAnyH_take (i := 8) (oi := ⟨some 30, _, _, _, _, _⟩) rfl (by kernel_rfl) (by kernel_rfl) (by kernel_rfl) (fun _ _ _ h => h) (Or.inr ⟨by rfl, rfl⟩) (by assumption) ?_
      try simp only [Act.put, List.setIfInBounds_toArray, List.set_cons_zero, List.set_cons_succ]
      refine wpAnyH_take (i := 9) (oi := ⟨some 31, _, _, _, _, _⟩) rfl (by kernel_rfl) (by kernel_rfl) (by kernel_rfl) (fun _ _ _ h => h) (Or.inr ⟨by rfl, rfl⟩) (by assumption) ?_
      try simp only [Act.put, List.setIfInBounds_toArray, List.set_cons_zero, List.set_cons_succ]
      refine wpAnyH_take (i := 10) (oi := ⟨some 32, _, _, _, _, _⟩) rfl (by kernel_rfl) (by kernel_rfl) (by kernel_rfl) (fun _ _ _ h => h) (Or.inr ⟨by rfl, rfl⟩) (by assumption) ?_
      try simp only [Act.put, List.setIfInBounds_toArray, List.set_cons_zero, List.set_cons_succ]
      refine wpAnyH_take (i := 11) (oi := ⟨some 33, _, _, _, _, _⟩) rfl (by kernel_rfl) (by kernel_rfl) (by kernel_rfl) (fun _ _ _ h => h) (Or.inr ⟨by rfl, rfl⟩) (by assumption) ?_
      try simp only [Act.put, List.setIfInBounds_toArray, List.set_cons_zero, List.set_cons_succ]
      refine wpAnyH_take (i := 12) (oi := ⟨some 34, _, _, _, _, _⟩) rfl (by kernel_rfl) (by kernel_rfl) (by kernel_rfl) (fun _ _ _ h => h) (Or.inr ⟨by rfl, rfl⟩) (by assumption) ?_
      try simp only [Act.put, List.setIfInBounds_toArray, List.set_cons_zero, List.set_cons_succ]
      refine wpAnyH_take (i := 13) (oi := ⟨some 35, _, _, _, _, _⟩) (v := ?_) rfl (by kernel_rfl) (by kernel_rfl) (by kernel_rfl) (fun _ _ _ h => h) (Or.inl ⟨by rfl, ?_⟩) (by assumption) ?_
      rotate_left
      · intro w hSw; (try dsimp only at hSw); go_simp <;> with_reducible rfl
      try simp only [Act.put, List.setIfInBounds_toArray, List.set_cons_zero, List.set_cons_succ]
      refine wpAnyH_take (i := 15) (oi := ⟨some 5, _, _, _, _, _⟩) (v := ?_) rfl (by kernel_rfl) (by kernel_rfl) (by kernel_rfl) (fun _ _ _ h => h) (Or.inl ⟨by rfl, ?_⟩) (by assumption) ?_
      rotate_left
      · intro w hSw; (try dsimp only at hSw); go_simp <;> with_reducible rfl
      try simp only [Act.put, List.setIfInBounds_toArray, List.set_cons_zero, List.set_cons_succ]
      refine wpAnyH_done (by kernel_rfl) ?_ _
      skip
      go_wp2_with (fail)
      go_ret2
      exact ⟨rfl, B8⟩
end Go.Proofs.Ytomgjapjeckokaa
