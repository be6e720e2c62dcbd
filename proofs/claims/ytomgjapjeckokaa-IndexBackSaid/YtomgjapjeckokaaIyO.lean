/- The walks of codexkeep's Entries and Blocks (printed by gen_iyn.py). -/
import Derived.Test.YtomgjapjeckokaaIyN
import Derived.Deep.RegionHeld3
namespace Go.Proofs.Ytomgjapjeckokaa
open Go.RowKit Go.Shelf Go.Lib

set_option maxRecDepth 100000 in
set_option maxHeartbeats 1000000 in
theorem Entries_any (l m : List (Ent)) (v1 v2 : Value) (w : World) (h1 : Sl w 35 encE v1 l) (h2 : Sl w 35 encE v2 m) (ho1 : ∀ x ∈ l, x.key.length = 32) (ho2 : ∀ x ∈ m, x.key.length = 32) (hl : l.length ≤ 1000000) (_hm : m.length ≤ maxLen) :
    Calls Try.prog 17 #[v1, v2] w fun e w' => e = .returned (.bool (decide (l = m))) ∧ Below w.heap.size w w' := by
  obtain ⟨n₀, hn₀⟩ : ∃ n, w.heap.size = n := ⟨_, rfl⟩
  obtain ⟨p1, c1, rfl, -⟩ := h1.shape
  obtain ⟨p2, c2, rfl, -⟩ := h2.shape
  have hB1 : ∀ W, Below n₀ w W → Sl W 35 encE (.slice p1 l.length c1) l := fun W hB => (Kept.of_below (hn₀ ▸ hB : Below w.heap.size w W) 0).sl h1
  have hB2 : ∀ W, Below n₀ w W → Sl W 35 encE (.slice p2 m.length c2) m := fun W hB => (Kept.of_below (hn₀ ▸ hB : Below w.heap.size w W) 0).sl h2
  unfold maxLen at _hm
  obtain ⟨r, hr⟩ : ∃ r, decide (l = m) = r := ⟨_, rfl⟩
  rw [hr]
  by_cases hlen : l.length = m.length
  · obtain ⟨L, hL⟩ : ∃ x, l.length = x := ⟨_, rfl⟩
    rw [← hlen, hL] at hB2
    rw [← hlen, hL]
    rw [hL] at hB1 hl
    have B0 : Below n₀ w w := Below.refl _ _
    have hLm := hlen.symm.trans hL
    replace hL := hid hL
    replace hLm := hid hLm
    replace hr := hid hr
    replace hB1 := hid hB1
    replace hB2 := hid hB2
    clear h1 h2 hlen _hm
    rw [hn₀]
    go_enter Try.func17, Try.ntmps17
    go_wp2_with (fail)
    go_loopw [5] (fun iv wr => ∃ k : Nat, k ≤ L ∧ iv = .int .i64 k ∧ l.take k = m.take k ∧ Below n₀ w wr) (fun iv _ => L - (RowKit.intOf iv).toNat)
    case atStart => exact ⟨0, Nat.zero_le _, rfl, rfl, B0⟩
    case round =>
      obtain ⟨k, hkL, rfl, hacc, qB⟩ := hrel
      clear B0
      by_cases hlt : k < L
      · have hkI : (k : Int) < (L : Int) := by omega
        obtain ⟨xa, hxa⟩ : ∃ e, l[k]? = some e := ⟨_, List.getElem?_eq_getElem (by rw [hL.out]; omega)⟩
        obtain ⟨xb, hxb⟩ : ∃ e, m[k]? = some e := ⟨_, List.getElem?_eq_getElem (by rw [hLm.out]; omega)⟩
        have hoa := (fun x => ho1 x) xa (List.mem_of_getElem? hxa)
        have hob := (fun x => ho2 x) xb (List.mem_of_getElem? hxb)
        obtain ⟨b1, o1, d1, he1, -, -, hc1⟩ := (hB1.out _ qB).open (by rintro rfl; simp at hxa)
        obtain ⟨rfl, -, rfl⟩ := Value.slice.inj he1
        clear he1
        obtain ⟨b2, o2, d2, he2, -, -, hc2⟩ := (hB2.out _ qB).open (by rintro rfl; simp at hxb)
        obtain ⟨rfl, -, rfl⟩ := Value.slice.inj he2
        clear he2
        have hia : (Try.prog.info? 48).map (·.size) = some (encE xa).length := by rw [encE_len, hoa]; kernel_rfl
        have hib : (Try.prog.info? 48).map (·.size) = some (encE xb).length := by rw [encE_len, hob]; kernel_rfl
        have hst : (fun W => W.rangeAt b1 (o1 + k * 35) (encE xa) ∧ W.rangeAt b2 (o2 + k * 35) (encE xb)) wr.drew := ⟨hc1 k xa hxa, hc2 k xb hxb⟩
        have hq : ∀ W, (binOp .neq 48 (.agg (encE xa).toArray) (.agg (encE xb).toArray)).run Try.prog W = .ok (.bool (!decide (xa = xb))) W := fun W => run_neq_ent xa xb hoa hob W
        have hta : l.take (k + 1) = l.take k ++ [xa] := by rw [List.take_add_one, hxa]; rfl
        have htb : m.take (k + 1) = m.take k ++ [xb] := by rw [List.take_add_one, hxb]; rfl
        have hneq : xa ≠ xb → l ≠ m := fun h e => h (by rw [e, hxb] at hxa; exact (Option.some.inj hxa).symm)
        obtain ⟨d, hd⟩ : ∃ d, decide (xa = xb) = d := ⟨_, rfl⟩
        rw [hd] at hq
        replace hd := hid hd
        replace hneq := hid hneq
        replace hta := hid hta
        replace htb := hid htb
        replace hacc := hid hacc
        have qB2 := qB.drewN 1
        clear hc1 hc2 hxa hxb hoa hob
        go_upto_region 6 with (fail)
        refine wp_region_held_drew (S := (fun W => W.rangeAt b1 (o1 + k * 35) (encE xa) ∧ W.rangeAt b2 (o2 + k * 35) (encE xb))) (by kernel_rfl) hst (fun hHeld => ?_)
        refine wpAnyH_take (i := 0) (oi := ⟨some 17, _, _, _, _, _⟩) (v := ?_) rfl (by kernel_rfl) (by kernel_rfl) (by kernel_rfl) (fun _ _ _ h => h) (Or.inl ⟨by rfl, ?_⟩) (by assumption) ?_
        rotate_left
        · intro w hSw; (try dsimp only at hSw); go_simp <;> with_reducible rfl
        try simp only [Act.put, List.setIfInBounds_toArray, List.set_cons_zero, List.set_cons_succ]
        refine wpAnyH_take (i := 1) (oi := ⟨some 18, _, _, _, _, _⟩) (v := ?_) rfl (by kernel_rfl) (by kernel_rfl) (by kernel_rfl) (fun _ _ _ h => h) (Or.inl ⟨by rfl, ?_⟩) (by assumption) ?_
        rotate_left
        · intro w hSw; (try dsimp only at hSw); go_simp <;> with_reducible rfl
        try simp only [Act.put, List.setIfInBounds_toArray, List.set_cons_zero, List.set_cons_succ]
        refine wpAnyH_take (i := 2) (oi := ⟨some 19, _, _, _, _, _⟩) (v := ?_) rfl (by kernel_rfl) (by kernel_rfl) (by kernel_rfl) (fun _ _ _ h => h) (Or.inl ⟨by rfl, ?_⟩) (by assumption) ?_
        rotate_left
        · intro w hSw; (try dsimp only at hSw); go_simp <;> with_reducible rfl
        try simp only [Act.put, List.setIfInBounds_toArray, List.set_cons_zero, List.set_cons_succ]
        refine wpAnyH_take (i := 3) (oi := ⟨some 20, _, _, _, _, _⟩) rfl (by kernel_rfl) (by kernel_rfl) (by kernel_rfl) (fun _ _ _ h => h) (yieldsIf_load_mid (by rfl) 48 _ rfl b1 (o1 + k * 35) rfl (encE xa) _ (fun w h => h.1) Try.underlying48 rfl hia) (by assumption) ?_
        try simp only [Act.put, List.setIfInBounds_toArray, List.set_cons_zero, List.set_cons_succ]
        refine wpAnyH_take (i := 4) (oi := ⟨some 21, _, _, _, _, _⟩) (v := ?_) rfl (by kernel_rfl) (by kernel_rfl) (by kernel_rfl) (fun _ _ _ h => h) (Or.inl ⟨by rfl, ?_⟩) (by assumption) ?_
        rotate_left
        · intro w hSw; (try dsimp only at hSw); go_simp <;> with_reducible rfl
        try simp only [Act.put, List.setIfInBounds_toArray, List.set_cons_zero, List.set_cons_succ]
        refine wpAnyH_take (i := 5) (oi := ⟨some 22, _, _, _, _, _⟩) (v := ?_) rfl (by kernel_rfl) (by kernel_rfl) (by kernel_rfl) (fun _ _ _ h => h) (Or.inl ⟨by rfl, ?_⟩) (by assumption) ?_
        rotate_left
        · intro w hSw; (try dsimp only at hSw); go_simp <;> with_reducible rfl
        try simp only [Act.put, List.setIfInBounds_toArray, List.set_cons_zero, List.set_cons_succ]
        refine wpAnyH_take (i := 6) (oi := ⟨some 23, _, _, _, _, _⟩) (v := ?_) rfl (by kernel_rfl) (by kernel_rfl) (by kernel_rfl) (fun _ _ _ h => h) (Or.inl ⟨by rfl, ?_⟩) (by assumption) ?_
        rotate_left
        · intro w hSw; (try dsimp only at hSw); go_simp <;> with_reducible rfl
        try simp only [Act.put, List.setIfInBounds_toArray, List.set_cons_zero, List.set_cons_succ]
        refine wpAnyH_take (i := 7) (oi := ⟨some 24, _, _, _, _, _⟩) rfl (by kernel_rfl) (by kernel_rfl) (by kernel_rfl) (fun _ _ _ h => h) (yieldsIf_load_mid (by rfl) 48 _ rfl b2 (o2 + k * 35) rfl (encE xb) _ (fun w h => h.2) Try.underlying48 rfl hib) (by assumption) ?_
        try simp only [Act.put, List.setIfInBounds_toArray, List.set_cons_zero, List.set_cons_succ]
        refine wpAnyH_take (i := 8) (oi := ⟨some 25, _, _, _, _, _⟩) (v := ?_) rfl (by kernel_rfl) (by kernel_rfl) (by kernel_rfl) (fun _ _ _ h => h) (Or.inl ⟨by rfl, ?_⟩) (by assumption) ?_
        rotate_left
        · intro w hSw; (try dsimp only at hSw); go_simp <;> with_reducible rfl
        try simp only [Act.put, List.setIfInBounds_toArray, List.set_cons_zero, List.set_cons_succ]
        refine wpAnyH_done (by kernel_rfl) ?_ _
        skip
        cases d with
        | true =>
          have hacc2 : l.take (k + 1) = m.take (k + 1) := by rw [hta.out, htb.out, hacc.out, of_decide_eq_true hd.out]
          replace hacc2 := hid hacc2
          replace qB2 : Hid (Below n₀ w wr.drew) := hid qB2
          clear hst hHeld hq qB
          go_wp2_with (fail)
          refine ⟨?_, ?_⟩
          · first | exact ⟨k + 1, by omega, by go_num, hacc2.out, qB2.out⟩ | ((repeat apply Exists.intro); refine ⟨?_, rfl⟩; exact ⟨k + 1, by omega, by go_num, hacc2.out, qB2.out⟩)
          · simp [RowKit.intOf]; omega
        | false =>
          have hr2 : r = false := by rw [← hr.out]; exact decide_eq_false (hneq.out (of_decide_eq_false hd.out))
          clear hst hHeld hq qB hr
          subst hr2
          go_wp2_with (fail)
          go_ret
          exact ⟨rfl, qB2⟩
      · obtain rfl : k = L := by omega
        have hr2 : r = true := by
          rw [← hr.out]
          refine decide_eq_true ?_
          rwa [List.take_of_length_le (by rw [hL.out]; omega), List.take_of_length_le (by rw [hLm.out]; omega)] at hacc
        clear hr hacc
        subst hr2
        go_wp2_with (fail)
        go_ret
        exact ⟨rfl, qB⟩
  · have hr2 : r = false := by rw [← hr]; exact decide_eq_false (fun e => hlen (by rw [e]))
    have hne : ¬ (l.length : Int) = (m.length : Int) := by omega
    subst hr2
    clear h1 h2 hB1 hB2 hr
    go_enter Try.func17, Try.ntmps17
    go_wp2_with (fail)
    go_ret
    exact ⟨rfl, Below.refl _ _⟩

set_option maxRecDepth 100000 in
set_option maxHeartbeats 1000000 in
theorem Blocks_any (l m : List (List UInt8)) (v1 v2 : Value) (w : World) (h1 : Sl w 128 keyV v1 l) (h2 : Sl w 128 keyV v2 m) (ho1 : ∀ x ∈ l, x.length = 128) (ho2 : ∀ x ∈ m, x.length = 128) (hl : l.length ≤ 1000000) (_hm : m.length ≤ maxLen) :
    Calls Try.prog 16 #[v1, v2] w fun e w' => e = .returned (.bool (decide (l = m))) ∧ Below w.heap.size w w' := by
  obtain ⟨n₀, hn₀⟩ : ∃ n, w.heap.size = n := ⟨_, rfl⟩
  obtain ⟨p1, c1, rfl, -⟩ := h1.shape
  obtain ⟨p2, c2, rfl, -⟩ := h2.shape
  have hB1 : ∀ W, Below n₀ w W → Sl W 128 keyV (.slice p1 l.length c1) l := fun W hB => (Kept.of_below (hn₀ ▸ hB : Below w.heap.size w W) 0).sl h1
  have hB2 : ∀ W, Below n₀ w W → Sl W 128 keyV (.slice p2 m.length c2) m := fun W hB => (Kept.of_below (hn₀ ▸ hB : Below w.heap.size w W) 0).sl h2
  unfold maxLen at _hm
  obtain ⟨r, hr⟩ : ∃ r, decide (l = m) = r := ⟨_, rfl⟩
  rw [hr]
  by_cases hlen : l.length = m.length
  · obtain ⟨L, hL⟩ : ∃ x, l.length = x := ⟨_, rfl⟩
    rw [← hlen, hL] at hB2
    rw [← hlen, hL]
    rw [hL] at hB1 hl
    have B0 : Below n₀ w w := Below.refl _ _
    have hLm := hlen.symm.trans hL
    replace hL := hid hL
    replace hLm := hid hLm
    replace hr := hid hr
    replace hB1 := hid hB1
    replace hB2 := hid hB2
    clear h1 h2 hlen _hm
    rw [hn₀]
    go_enter Try.func16, Try.ntmps16
    go_wp2_with (fail)
    go_loopw [5] (fun iv wr => ∃ k : Nat, k ≤ L ∧ iv = .int .i64 k ∧ l.take k = m.take k ∧ Below n₀ w wr) (fun iv _ => L - (RowKit.intOf iv).toNat)
    case atStart => exact ⟨0, Nat.zero_le _, rfl, rfl, B0⟩
    case round =>
      obtain ⟨k, hkL, rfl, hacc, qB⟩ := hrel
      clear B0
      by_cases hlt : k < L
      · have hkI : (k : Int) < (L : Int) := by omega
        obtain ⟨xa, hxa⟩ : ∃ e, l[k]? = some e := ⟨_, List.getElem?_eq_getElem (by rw [hL.out]; omega)⟩
        obtain ⟨xb, hxb⟩ : ∃ e, m[k]? = some e := ⟨_, List.getElem?_eq_getElem (by rw [hLm.out]; omega)⟩
        have hoa := (fun x => ho1 x) xa (List.mem_of_getElem? hxa)
        have hob := (fun x => ho2 x) xb (List.mem_of_getElem? hxb)
        obtain ⟨b1, o1, d1, he1, -, -, hc1⟩ := (hB1.out _ qB).open (by rintro rfl; simp at hxa)
        obtain ⟨rfl, -, rfl⟩ := Value.slice.inj he1
        clear he1
        obtain ⟨b2, o2, d2, he2, -, -, hc2⟩ := (hB2.out _ qB).open (by rintro rfl; simp at hxb)
        obtain ⟨rfl, -, rfl⟩ := Value.slice.inj he2
        clear he2
        have hia : (Try.prog.info? 43).map (·.size) = some (keyV xa).length := by rw [keyV_len, hoa]; kernel_rfl
        have hib : (Try.prog.info? 43).map (·.size) = some (keyV xb).length := by rw [keyV_len, hob]; kernel_rfl
        have hst : (fun W => W.rangeAt b1 (o1 + k * 128) (keyV xa) ∧ W.rangeAt b2 (o2 + k * 128) (keyV xb)) wr.drew := ⟨hc1 k xa hxa, hc2 k xb hxb⟩
        have hq : ∀ W, (binOp .neq 43 (.agg (keyV xa).toArray) (.agg (keyV xb).toArray)).run Try.prog W = .ok (.bool (!decide (xa = xb))) W := fun W => run_neq_blk xa xb hoa hob W
        have hta : l.take (k + 1) = l.take k ++ [xa] := by rw [List.take_add_one, hxa]; rfl
        have htb : m.take (k + 1) = m.take k ++ [xb] := by rw [List.take_add_one, hxb]; rfl
        have hneq : xa ≠ xb → l ≠ m := fun h e => h (by rw [e, hxb] at hxa; exact (Option.some.inj hxa).symm)
        obtain ⟨d, hd⟩ : ∃ d, decide (xa = xb) = d := ⟨_, rfl⟩
        rw [hd] at hq
        replace hd := hid hd
        replace hneq := hid hneq
        replace hta := hid hta
        replace htb := hid htb
        replace hacc := hid hacc
        have qB2 := qB.drewN 1
        clear hc1 hc2 hxa hxb hoa hob
        go_upto_region 6 with (fail)
        refine wp_region_held_drew (S := (fun W => W.rangeAt b1 (o1 + k * 128) (keyV xa) ∧ W.rangeAt b2 (o2 + k * 128) (keyV xb))) (by kernel_rfl) hst (fun hHeld => ?_)
        refine wpAnyH_take (i := 0) (oi := ⟨some 17, _, _, _, _, _⟩) (v := ?_) rfl (by kernel_rfl) (by kernel_rfl) (by kernel_rfl) (fun _ _ _ h => h) (Or.inl ⟨by rfl, ?_⟩) (by assumption) ?_
        rotate_left
        · intro w hSw; (try dsimp only at hSw); go_simp <;> with_reducible rfl
        try simp only [Act.put, List.setIfInBounds_toArray, List.set_cons_zero, List.set_cons_succ]
        refine wpAnyH_take (i := 1) (oi := ⟨some 18, _, _, _, _, _⟩) (v := ?_) rfl (by kernel_rfl) (by kernel_rfl) (by kernel_rfl) (fun _ _ _ h => h) (Or.inl ⟨by rfl, ?_⟩) (by assumption) ?_
        rotate_left
        · intro w hSw; (try dsimp only at hSw); go_simp <;> with_reducible rfl
        try simp only [Act.put, List.setIfInBounds_toArray, List.set_cons_zero, List.set_cons_succ]
        refine wpAnyH_take (i := 2) (oi := ⟨some 19, _, _, _, _, _⟩) (v := ?_) rfl (by kernel_rfl) (by kernel_rfl) (by kernel_rfl) (fun _ _ _ h => h) (Or.inl ⟨by rfl, ?_⟩) (by assumption) ?_
        rotate_left
        · intro w hSw; (try dsimp only at hSw); go_simp <;> with_reducible rfl
        try simp only [Act.put, List.setIfInBounds_toArray, List.set_cons_zero, List.set_cons_succ]
        refine wpAnyH_take (i := 3) (oi := ⟨some 20, _, _, _, _, _⟩) rfl (by kernel_rfl) (by kernel_rfl) (by kernel_rfl) (fun _ _ _ h => h) (yieldsIf_load_mid (by rfl) 43 _ rfl b1 (o1 + k * 128) rfl (keyV xa) _ (fun w h => h.1) Try.underlying43 rfl hia) (by assumption) ?_
        try simp only [Act.put, List.setIfInBounds_toArray, List.set_cons_zero, List.set_cons_succ]
        refine wpAnyH_take (i := 4) (oi := ⟨some 21, _, _, _, _, _⟩) (v := ?_) rfl (by kernel_rfl) (by kernel_rfl) (by kernel_rfl) (fun _ _ _ h => h) (Or.inl ⟨by rfl, ?_⟩) (by assumption) ?_
        rotate_left
        · intro w hSw; (try dsimp only at hSw); go_simp <;> with_reducible rfl
        try simp only [Act.put, List.setIfInBounds_toArray, List.set_cons_zero, List.set_cons_succ]
        refine wpAnyH_take (i := 5) (oi := ⟨some 22, _, _, _, _, _⟩) (v := ?_) rfl (by kernel_rfl) (by kernel_rfl) (by kernel_rfl) (fun _ _ _ h => h) (Or.inl ⟨by rfl, ?_⟩) (by assumption) ?_
        rotate_left
        · intro w hSw; (try dsimp only at hSw); go_simp <;> with_reducible rfl
        try simp only [Act.put, List.setIfInBounds_toArray, List.set_cons_zero, List.set_cons_succ]
        refine wpAnyH_take (i := 6) (oi := ⟨some 23, _, _, _, _, _⟩) (v := ?_) rfl (by kernel_rfl) (by kernel_rfl) (by kernel_rfl) (fun _ _ _ h => h) (Or.inl ⟨by rfl, ?_⟩) (by assumption) ?_
        rotate_left
        · intro w hSw; (try dsimp only at hSw); go_simp <;> with_reducible rfl
        try simp only [Act.put, List.setIfInBounds_toArray, List.set_cons_zero, List.set_cons_succ]
        refine wpAnyH_take (i := 7) (oi := ⟨some 24, _, _, _, _, _⟩) rfl (by kernel_rfl) (by kernel_rfl) (by kernel_rfl) (fun _ _ _ h => h) (yieldsIf_load_mid (by rfl) 43 _ rfl b2 (o2 + k * 128) rfl (keyV xb) _ (fun w h => h.2) Try.underlying43 rfl hib) (by assumption) ?_
        try simp only [Act.put, List.setIfInBounds_toArray, List.set_cons_zero, List.set_cons_succ]
        refine wpAnyH_take (i := 8) (oi := ⟨some 25, _, _, _, _, _⟩) (v := ?_) rfl (by kernel_rfl) (by kernel_rfl) (by kernel_rfl) (fun _ _ _ h => h) (Or.inl ⟨by rfl, ?_⟩) (by assumption) ?_
        rotate_left
        · intro w hSw; (try dsimp only at hSw); go_simp <;> with_reducible rfl
        try simp only [Act.put, List.setIfInBounds_toArray, List.set_cons_zero, List.set_cons_succ]
        refine wpAnyH_done (by kernel_rfl) ?_ _
        skip
        cases d with
        | true =>
          have hacc2 : l.take (k + 1) = m.take (k + 1) := by rw [hta.out, htb.out, hacc.out, of_decide_eq_true hd.out]
          replace hacc2 := hid hacc2
          replace qB2 : Hid (Below n₀ w wr.drew) := hid qB2
          clear hst hHeld hq qB
          go_wp2_with (fail)
          refine ⟨?_, ?_⟩
          · first | exact ⟨k + 1, by omega, by go_num, hacc2.out, qB2.out⟩ | ((repeat apply Exists.intro); refine ⟨?_, rfl⟩; exact ⟨k + 1, by omega, by go_num, hacc2.out, qB2.out⟩)
          · simp [RowKit.intOf]; omega
        | false =>
          have hr2 : r = false := by rw [← hr.out]; exact decide_eq_false (hneq.out (of_decide_eq_false hd.out))
          clear hst hHeld hq qB hr
          subst hr2
          go_wp2_with (fail)
          go_ret
          exact ⟨rfl, qB2⟩
      · obtain rfl : k = L := by omega
        have hr2 : r = true := by
          rw [← hr.out]
          refine decide_eq_true ?_
          rwa [List.take_of_length_le (by rw [hL.out]; omega), List.take_of_length_le (by rw [hLm.out]; omega)] at hacc
        clear hr hacc
        subst hr2
        go_wp2_with (fail)
        go_ret
        exact ⟨rfl, qB⟩
  · have hr2 : r = false := by rw [← hr]; exact decide_eq_false (fun e => hlen (by rw [e]))
    have hne : ¬ (l.length : Int) = (m.length : Int) := by omega
    subst hr2
    clear h1 h2 hB1 hB2 hr
    go_enter Try.func16, Try.ntmps16
    go_wp2_with (fail)
    go_ret
    exact ⟨rfl, Below.refl _ _⟩
end Go.Proofs.Ytomgjapjeckokaa
