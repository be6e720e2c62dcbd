/- The walk of the law IndexKeeps, arguments that came in, the law (XIyT, XIyU, XIyV, XIndexKeeps in one). -/
import Derived.Test.YtomgjapjeckokaaIyS
import Derived.Deep.RegionHeld3
import Derived.Test.YtomgjapjeckokaaIyM
import Derived.Test.YtomgjapjeckokaaLaw
namespace Go.Proofs.Ytomgjapjeckokaa
open Go.RowKit Go.Shelf Go.Lib

section
variable {P : Program}
theorem run_slice_lit (W : World) (t e : TypeId) (K : Nat) (hu : P.underlying t = some (.slice e)) (hK : (P.info? e).map (·.size) = some K) (a : Option Addr) (L c : Nat) (lo hi : Option Value) (l h : Nat)
    (hb : (Instr.sliceBounds true L c lo hi none).run P W = .ok (l, h, c) W) : (Instr.sliceAt t (.slice a L c) lo hi none).run P W = .ok (.slice (if c = l then a else a.map (·.add (l * K))) (h - l) (c - l)) W := by
  obtain ⟨i, hi0, hi1⟩ := Option.map_eq_some_iff.1 hK
  have he : P.elem t = e := by simp [Program.elem, hu]
  rw [run_sliceAt_slice _ t _ _ _ _ (by rw [he]; exact hu)]
  simp [Instr.slice, run_underlying hu, hb, sizeOf, typeInfo, hi0, hi1]
theorem slice_take {α : Type} {enc : α → List Value} (t e : TypeId) (K : Nat) (hu : P.underlying t = some (.slice e)) (hK : (P.info? e).map (·.size) = some K) {v : Value} {l : List α} {k : Nat} (hk : k ≤ l.length) {W0 : World} (h0 : Sl W0 K enc v l) :
    ∃ s, (∀ W, (Instr.sliceAt t v none (some (.int .i64 k)) none).run P W = .ok s W) ∧ (∀ W, Sl W K enc v l → Sl W K enc s (l.take k)) ∧ ∃ p c, s = .slice p k c := by
  obtain ⟨a, c, rfl, hc⟩ : ∃ a c, v = .slice a l.length c ∧ l.length ≤ c := by
    rcases h0 with ⟨rfl, rfl⟩ | ⟨a, c, rfl, h1, -⟩
    · exact ⟨none, 0, rfl, Nat.le_refl _⟩
    · exact ⟨some a, c, rfl, h1⟩
  refine ⟨.slice a k c, fun W => ?_, fun W h => ?_, a, c, rfl⟩
  · have hb : (Instr.sliceBounds true l.length c none (some (.int .i64 (k : Int))) none).run P W = .ok (0, k, c) W := by
      have h9 : (k : Int) ≤ (c : Int) := by omega
      simp [Instr.sliceBounds, run_sliceBound _ _ _ _ _ (show (0 : Int) ≤ (k : Int) by omega) h9]
    rw [run_slice_lit W t e K hu hK a _ c _ _ 0 k hb]
    have : a.map (fun x => x.add 0) = a := by
      cases a with
      | none => rfl
      | some x => rw [Option.map_some]; unfold Addr.add; rw [if_pos rfl]
    split <;> simp [this]
  · have hlk : (l.take k).length = k := by simp; omega
    rcases h with ⟨h, rfl⟩ | ⟨a', cap, h, h1, h2, h3, h4⟩
    · cases h
      simp at hk
      subst hk
      exact .inl ⟨rfl, rfl⟩
    · simp only [Value.slice.injEq] at h
      obtain ⟨rfl, -, rfl⟩ := h
      refine .inr ⟨a', c, by rw [hlk], by rw [hlk]; omega, h2, fun hne => h3 (by rintro rfl; simp at hne), fun i x hx => h4 i x ?_⟩
      rw [List.getElem?_take] at hx
      split at hx
      · exact hx
      · cases hx
theorem slice_drop {α : Type} {enc : α → List Value} (t e : TypeId) (K : Nat) (hu : P.underlying t = some (.slice e)) (hK : (P.info? e).map (·.size) = some K) {v : Value} {l : List α} {k : Nat} (hk : k ≤ l.length) {W0 : World} (h0 : Sl W0 K enc v l) :
    ∃ s, (∀ W, (Instr.sliceAt t v (some (.int .i64 k)) none none).run P W = .ok s W) ∧ (∀ W, Sl W K enc v l → Sl W K enc s (l.drop k)) ∧ ∃ p c, s = .slice p (l.length - k) c := by
  obtain ⟨a, c, rfl, hc⟩ : ∃ a c, v = .slice a l.length c ∧ l.length ≤ c := by
    rcases h0 with ⟨rfl, rfl⟩ | ⟨a, c, rfl, h1, -⟩
    · exact ⟨none, 0, rfl, Nat.le_refl _⟩
    · exact ⟨some a, c, rfl, h1⟩
  refine ⟨.slice (if c = k then a else a.map (·.add (k * K))) (l.length - k) (c - k), fun W => ?_, fun W h => ?_, _, _, rfl⟩
  · refine run_slice_lit W t e K hu hK a _ c _ _ k l.length ?_
    have h9 : (k : Int) ≤ (l.length : Int) := by omega
    simp [Instr.sliceBounds, run_sliceBound _ _ _ _ _ (show (0 : Int) ≤ (k : Int) by omega) h9]
  · have hlk : (l.drop k).length = l.length - k := by simp
    rcases h with ⟨h, rfl⟩ | ⟨a', cap, h, h1, h2, h3, h4⟩
    · cases h
      simp at hk
      subst hk
      exact .inl ⟨rfl, rfl⟩
    · simp only [Value.slice.injEq] at h
      obtain ⟨rfl, -, rfl⟩ := h
      by_cases e1 : c = k
      · rw [if_pos e1]
        have hd : l.drop k = [] := List.drop_eq_nil_of_le (by omega)
        rw [hd]
        exact .inr ⟨a', c - k, by rw [show l.length - k = 0 by omega]; rfl, by simp, by omega, fun h => absurd rfl h, fun i x hx => by simp at hx⟩
      · rw [if_neg e1]
        by_cases e2 : k = 0
        · subst e2
          rw [Nat.zero_mul]
          simp only [Option.map_some, Addr.add, if_true, List.drop_zero, Nat.sub_zero]
          exact .inr ⟨a', c, rfl, h1, h2, h3, h4⟩
        · refine .inr ⟨a'.add (k * K), c - k, by rw [hlk]; rfl, by rw [hlk]; omega, by omega, fun hne => ?_, fun i x hx => ?_⟩
          · have h5 := h3 (by rintro rfl; simp at hne)
            unfold Addr.add
            split
            · exact h5
            · rfl
          · rw [List.getElem?_drop] at hx
            have h5 := h4 _ _ hx
            have h6 : (a'.add (k * K)).block = a'.block ∧ (a'.add (k * K)).off = a'.off + k * K := by
              unfold Addr.add
              split
              · rename_i h7; exact ⟨rfl, by omega⟩
              · exact ⟨rfl, rfl⟩
            rw [h6.1, h6.2]
            rwa [show a'.off + k * K + i * K = a'.off + (k + i) * K by rw [Nat.add_mul]; omega]
theorem yieldsIf_slice {ops : Array Oper} {S : World → Prop} {op : Oper} {a : Act} (hw : Region.wanted op (yielded ops a.tmps) = true) (t : TypeId) (x : Operand) (lo hi : Option Operand) (ho : op.op = .slice t x lo hi none) (v : Value)
    (h : ∀ w, (Instr.sliceAt t (a.eval x) (lo.map a.eval) (hi.map a.eval) none).run P w = .ok v w) : YieldsIf P ops S op v a :=
  .inl ⟨hw, fun w _ => by
    unfold execOp
    simp only [ho, Sem.run_bind, Option.map_none, h w, Result.andThen_ok]; rfl⟩
end

theorem posL_lt {l : List Ent} {key : List UInt8} {t : Nat} (h : t < posL l key) : lessS (keyAt l t) key = true := by
  have h1 := posL_le l key
  have h2 := List.not_of_lt_findIdx (xs := l) (p := fun e => !lessS e.key key) h
  rw [keyAt_of (List.getElem?_eq_getElem (by omega))]
  simpa using h2
theorem posL_ge {l : List Ent} {key : List UInt8} (h : posL l key < l.length) : lessS (keyAt l (posL l key)) key = false := by
  have h' : List.findIdx (fun e : Ent => !lessS e.key key) l < l.length := h
  have h2 : (!lessS (l[posL l key]'h).key key) = true := List.findIdx_getElem (xs := l) (p := fun e => !lessS e.key key) (w := h')
  rw [keyAt_of (List.getElem?_eq_getElem h)]
  simpa using h2
theorem keyAt_eq {l m : List Ent} {i j : Nat} (h : l[i]? = m[j]?) : keyAt l i = keyAt m j := by unfold keyAt; rw [h]
theorem ins_len (l : List Ent) (x : Ent) : (insS l x).length = l.length + 1 := by
  have := posL_le l x.key
  unfold insS; simp; omega
theorem ins_get (l : List Ent) (x : Ent) (i : Nat) : (insS l x)[i]? = if i < posL l x.key then l[i]? else if i = posL l x.key then some x else l[i - 1]? := by
  have hp := posL_le l x.key
  unfold insS
  by_cases h1 : i < posL l x.key
  · rw [if_pos h1, List.append_assoc, List.getElem?_append_left (by simp; omega), List.getElem?_take_of_lt h1]
  · rw [if_neg h1]
    by_cases h2 : i = posL l x.key
    · rw [if_pos h2, List.append_assoc, List.getElem?_append_right (by simp; omega), List.length_take, Nat.min_eq_left hp, h2, Nat.sub_self]; rfl
    · rw [if_neg h2, List.getElem?_append_right (by simp; omega), List.getElem?_drop, List.length_append, List.length_take, Nat.min_eq_left hp, List.length_singleton]
      congr 1; omega
theorem ins_take (l : List Ent) (x : Ent) : (insS l x).take (posL l x.key) = l.take (posL l x.key) := by
  unfold insS
  rw [List.append_assoc]
  exact List.take_left' (by rw [List.length_take, Nat.min_eq_left (posL_le l x.key)])
theorem ins_drop (l : List Ent) (x : Ent) : (insS l x).drop (posL l x.key + 1) = l.drop (posL l x.key) := by
  unfold insS
  exact List.drop_left' (by rw [List.length_append, List.length_take, Nat.min_eq_left (posL_le l x.key)]; rfl)
theorem ins_key {l : List Ent} {x : Ent} (hl : ∀ e ∈ l, e.key.length = 32) (hx : x.key.length = 32) : ∀ e ∈ insS l x, e.key.length = 32 := fun e he => by
  unfold insS at he
  rcases List.mem_append.1 he with he | he
  · rcases List.mem_append.1 he with he | he
    · exact hl e (List.mem_of_mem_take he)
    · obtain rfl := List.mem_singleton.1 he; exact hx
  · exact hl e (List.mem_of_mem_drop he)
theorem ins_rises {l : List Ent} {x : Ent} (hr : risesL l = true) (hf : foundL l x.key = false) : risesL (insS l x) = true := by
  refine rises_all fun i hi => ?_
  rw [ins_len] at hi
  have hp := posL_le l x.key
  obtain ⟨k, hk⟩ : ∃ k, posL l x.key = k := ⟨_, rfl⟩
  have hg := ins_get l x
  rw [hk] at hg hp
  have hlt : ∀ t, t < k → lessS (keyAt l t) x.key = true := fun t ht => posL_lt (by rw [hk]; exact ht)
  by_cases h1 : i + 1 < k
  · rw [keyAt_eq (m := l) (j := i) (by rw [hg, if_pos (by omega)]), keyAt_eq (l := insS l x) (m := l) (j := i + 1) (by rw [hg, if_pos h1])]
    exact rises_step hr (by omega)
  · by_cases h2 : i + 1 = k
    · rw [keyAt_eq (m := l) (j := i) (by rw [hg, if_pos (by omega)]), keyAt_of (l := insS l x) (i := i + 1) (by rw [hg, if_neg (by omega), if_pos h2])]
      exact hlt i (by omega)
    · by_cases h3 : i = k
      · subst h3
        have hil : i < l.length := by omega
        rw [keyAt_of (l := insS l x) (i := i) (by rw [hg, if_neg (by omega), if_pos rfl]), keyAt_eq (l := insS l x) (m := l) (j := i) (by rw [hg, if_neg (by omega), if_neg (by omega), Nat.add_sub_cancel])]
        have h4 : lessS (keyAt l i) x.key = false := by have := posL_ge (l := l) (key := x.key) (by rw [hk]; exact hil); rwa [hk] at this
        cases h5 : lessS x.key (keyAt l i) with
        | true => rfl
        | false =>
          have h6 := lessS_total h4 h5
          rw [foundL_is, hk, decide_eq_true hil, decide_eq_true h6] at hf
          cases hf
      · rw [keyAt_eq (l := insS l x) (m := l) (i := i) (j := i - 1) (by rw [hg, if_neg (by omega), if_neg h3]), keyAt_eq (l := insS l x) (m := l) (i := i + 1) (j := i) (by rw [hg, if_neg (by omega), if_neg (by omega), Nat.add_sub_cancel])]
        have := rises_step hr (i := i - 1) (by omega)
        rwa [show i - 1 + 1 = i by omega] at this
theorem ins_pos (l : List Ent) (x : Ent) : posL (insS l x) x.key = posL l x.key := by
  have hp := posL_le l x.key
  refine posL_first (by rw [ins_len]; omega) (fun t ht => ?_) (fun _ => ?_)
  · rw [keyAt_eq (m := l) (j := t) (by rw [ins_get, if_pos ht])]
    exact posL_lt ht
  · rw [keyAt_of (l := insS l x) (by rw [ins_get, if_neg (by omega), if_pos rfl])]
    exact lessS_irrefl _
theorem ins_found (l : List Ent) (x : Ent) : foundL (insS l x) x.key = true := by
  have hp := posL_le l x.key
  rw [foundL_is, ins_pos, ins_len, decide_eq_true (by omega), keyAt_of (l := insS l x) (by rw [ins_get, if_neg (by omega), if_pos rfl]), decide_eq_true rfl]
  rfl
theorem rem_ins (l : List Ent) (x : Ent) : remS (insS l x) x.key = l := by
  unfold remS
  rw [ins_pos, ins_take, ins_drop, List.take_append_drop]
theorem rem_take (l : List Ent) (key : List UInt8) : (remS l key).take (posL l key) = l.take (posL l key) := by
  unfold remS
  exact List.take_left' (by rw [List.length_take, Nat.min_eq_left (posL_le l key)])
theorem rem_drop (l : List Ent) (key : List UInt8) : (remS l key).drop (posL l key) = l.drop (posL l key + 1) := by
  unfold remS
  exact List.drop_left' (by rw [List.length_take, Nat.min_eq_left (posL_le l key)])
theorem rem_len {l : List Ent} {key : List UInt8} (h : foundL l key = true) : (remS l key).length = l.length - 1 ∧ posL l key < l.length := by
  rw [foundL_is] at h
  simp only [Bool.and_eq_true, decide_eq_true_eq] at h
  refine ⟨?_, h.1⟩
  unfold remS
  have := h.1
  simp; omega
theorem rem_key {l : List Ent} {key : List UInt8} (hl : ∀ e ∈ l, e.key.length = 32) : ∀ e ∈ remS l key, e.key.length = 32 := fun e he => by
  unfold remS at he
  rcases List.mem_append.1 he with he | he
  · exact hl e (List.mem_of_mem_take he)
  · exact hl e (List.mem_of_mem_drop he)
end Go.Proofs.Ytomgjapjeckokaa
namespace Go.Proofs.Ytomgjapjeckokaa
open Go.RowKit Go.Shelf Go.Lib

set_option maxRecDepth 100000 in
set_option maxHeartbeats 4000000 in
theorem IndexKeeps_any (l : List Ent) (x : Ent) (v : Value) (w : World) (hs : Sl w 35 encE v l) (hk : ∀ e ∈ l, e.key.length = 32) (hkx : x.key.length = 32) :
    Calls Try.prog 5 #[v, .agg (rowE x)] w fun e w' => e = .returned (.bool true) ∧ Below w.heap.size w w' := by
  obtain ⟨i0, z, hi0, hz0, hz1, hz2, hz3⟩ := infoE_parts
  obtain ⟨n₀, hn₀⟩ : ∃ n, w.heap.size = n := ⟨_, rfl⟩
  obtain ⟨pl, cl, rfl, hlc⟩ := hs.shape
  have hsB : ∀ W, Below n₀ w W → Sl W 35 encE (.slice pl l.length cl) l := fun W hB => (Kept.of_below (hn₀ ▸ hB : Below w.heap.size w W) 0).sl hs
  have g1 := World.alloc_heap_new w (.cells (rowE x) 48)
  rw [hn₀] at g1
  have B1 : Below n₀ w (w.alloc (.cells (rowE x) 48)) := by rw [← hn₀]; exact (Below.refl _ w).alloc (Nat.le_refl _) _
  have hix : (Try.prog.info? 48).map (·.size) = some (encE x).length := by rw [encE_len, hkx]; kernel_rfl
  have hik : (Try.prog.info? 46).map (·.size) = some (keyV x.key).length := by rw [keyV_len, hkx]; kernel_rfl
  obtain ⟨W1, hW1⟩ : ∃ W : World, W = w.alloc (.cells (rowE x) 48) := ⟨_, rfl⟩
  rw [← hW1] at g1 B1
  unfold maxLen at hlc
  by_cases hbig : 200 < l.length
  · have hbi : (200 : Int) < (l.length : Int) := by omega
    clear hs hsB
    go_enter Try.func5, Try.ntmps5
    go_upto_region 1 with (fail)
    rw [← hW1]
    clear hW1
    go_wp2_with (fail)
    refine (wakes_any _).mono ?_
    rintro r w4 ⟨rfl, b4⟩
    have B4 := B1.trans (b4.mono (by have := B1.size; omega))
    clear b4
    go_wp2_with (fail)
    go_ret
    subst hn₀
    exact ⟨rfl, B4⟩
  · have hbi : ¬ (200 : Int) < (l.length : Int) := by omega
    have cR := hid (Rising_any l _ W1 (hsB _ B1) hk (by omega))
    obtain ⟨L, hL⟩ : ∃ x, l.length = x := ⟨_, rfl⟩
    rw [hL] at hsB hbi hbig cR hlc ⊢
    obtain ⟨rb, hrb⟩ : ∃ r, risesL l = r := ⟨_, rfl⟩
    rw [hrb] at cR
    replace hL := hid hL
    replace hrb := hid hrb
    replace hsB := hid hsB
    clear hs
    go_enter Try.func5, Try.ntmps5
    go_upto_region 1 with (fail)
    rw [← hW1]
    clear hW1
    go_wp2_with (fail)
    refine cR.out.mono ?_
    rintro r w2 ⟨rfl, b2⟩
    have g2 := (Kept.of_below b2 0).same _ _ g1 (.inl rfl)
    have B2 := B1.trans (b2.mono (by have := B1.size; omega))
    clear cR b2 g1 B1
    cases rb with
    | false =>
      go_wp2_with (fail)
      refine (wakes_any _).mono ?_
      rintro r w4 ⟨rfl, b4⟩
      have B4 := B2.trans (b4.mono (by have := B2.size; omega))
      clear b4
      go_wp2_with (fail)
      go_ret
      subst hn₀
      exact ⟨rfl, B4⟩
    | true =>
      have hz2' := B2.size
      have s2 := hsB.out w2 B2
      have sA := (Kept.alloc 0 w2 (.cells #[] 48)).sl s2
      have gA := (Kept.alloc 0 w2 (.cells #[] 48)).same _ _ g2 (.inl rfl)
      have BA := B2.alloc (by omega) (.cells #[] 48)
      have hlA : l.length ≤ 200 := by rw [hL.out]; omega
      have hn2 : n₀ < w2.heap.size := (Array.getElem?_eq_some_iff.1 g2).1
      go_upto_region 4 with (at_builtin; go_must (refine wpList_append_sl rfl _ _ 22 rfl w2.heap.size 48 i0 z 35 56 Try.underlying22 hi0 hz0 hz1 hz2 hz3 (by decide) _ _ _ rfl (World.ownsRow_made w2 #[] 0 (Nat.le_refl _) (Nat.zero_le _) rfl) encE _ l rfl sA (encE_enc hk) (by unfold maxLen; omega) (by omega) (by simp) ?_; intro v5 w5 o5 hg5 n5))
      have hnn5 : v5 ≠ .slice none 0 0 := fun e => by have h9 := (n5.1 e).1; simp [Act.eval] at h9
      have g5 : w5.heap[n₀]? = some (.cells (rowE x) 48 (0, 0)) := (hg5.block n₀ (Array.getElem?_eq_some_iff.1 gA).1 (fun e => by simp [Value.ownBlock, Act.eval] at e; omega)).trans gA
      have B5 := BA.grown hg5 (by simp; omega) (fun j e => by simp [Value.ownBlock, Act.eval] at e; omega)
      have o5' : w5.ownsRow w2.heap.size 48 35 v5 l.length (l.flatMap encE) := by simpa using o5
      have m5 := sl_of_owns (enc := encE) (l := l) (fun y hy => by rw [encE_len, hk y hy]) o5'
      obtain ⟨p5, c5, rfl, -, -⟩ := owns_shape o5'
      rw [hL.out] at m5 ⊢
      clear o5 o5' hg5 n5 gA BA sA s2 g2 B2 hnn5 hz2' hn2
      have hmono := rises_mono hrb.out x.key
      obtain ⟨k, hke⟩ : ∃ k, posL l x.key = k := ⟨_, rfl⟩
      obtain ⟨fb, hfb⟩ : ∃ k, foundL l x.key = k := ⟨_, rfl⟩
      have hkL : k ≤ L := by rw [← hke, ← hL.out]; exact posL_le _ _
      have cF := hid (fun W (hW : Sl W 35 encE (.slice p5 L c5) l) => by have h := Find_any l x.key p5 c5 W (by rw [hL.out]; exact hW) (by omega) hk hkx hmono; rw [hL.out, hke, hfb] at h; exact h)
      have cG := hid (fun W (hW : Sl W 35 encE (.slice pl L cl) l) => by have h := rFind_any l x.key _ W hW hk hkx (by omega); rw [hke, hfb] at h; exact h)
      have cI := hid (fun W (hW : Sl W 35 encE (.slice p5 L c5) l) => by have h := Insert_any l x p5 c5 W (by rw [hL.out]; exact hW) (by omega) hk hkx hmono; rw [hL.out, hfb] at h; exact h)
      have cQ := hid (fun W (hW : Sl W 35 encE (.slice p5 L c5) l) => by have h := Remove_any l x.key p5 c5 W (by rw [hL.out]; exact hW) (by omega) hk hkx hmono; rw [hL.out, hfb] at h; exact h)
      replace hke := hid hke
      replace hfb := hid hfb
      have hr5 := range_key (range_blk (cs := encE x) g5)
      replace m5 := hid m5
      go_wp2_with (refine wpList_load_mid rfl 46 _ rfl n₀ 0 rfl (keyV x.key) _ hr5 Try.underlying46 rfl hik ?_)
      refine (cF.out _ m5.out).mono ?_
      rintro r w6 ⟨rfl, b6⟩
      have g6 := (Kept.of_below b6 0).same _ _ g5 (.inl rfl)
      have m6 := hid ((Kept.of_below b6 0).sl m5.out)
      have B6 := B5.trans (b6.mono (by have := B5.size; omega))
      have hr6 := range_key (range_blk (cs := encE x) g6)
      clear cF b6 g5 m5 B5 hr5
      go_wp2_with (refine wpList_load_mid rfl 46 _ rfl n₀ 0 rfl (keyV x.key) _ hr6 Try.underlying46 rfl hik ?_)
      refine (cG.out _ (hsB.out _ B6)).mono ?_
      rintro r w7 ⟨rfl, b7⟩
      have g7 := (Kept.of_below b7 0).same _ _ g6 (.inl rfl)
      have m7 := hid ((Kept.of_below b7 0).sl m6.out)
      have B7 := B6.trans (b7.mono (by have := B6.size; omega))
      have hr7 := range_blk (cs := encE x) g7
      clear cG b7 g6 m6 B6 hr6
      go_wp2_with (refine wpList_load_mid rfl 48 _ rfl n₀ 0 rfl (encE x) _ hr7 Try.underlying48 rfl hix ?_)
      refine (cI.out _ m7.out).mono ?_
      rintro r w8 ⟨v8, er8, rfl, b8, ans8⟩
      have g8' := (Kept.of_below b8 0).same _ _ g7 (.inl rfl)
      have m8 := hid ((Kept.of_below b8 0).sl m7.out)
      have B8 := B7.trans (b8.mono (by have := B7.size; omega))
      have hr8 := range_key (range_blk (cs := encE x) g8')
      clear cI b8 g7 m7 B7 hr7
      replace ans8 := hid ans8
      go_wp2_with (refine wpList_load_mid rfl 46 _ rfl n₀ 0 rfl (keyV x.key) _ hr8 Try.underlying46 rfl hik ?_)
      refine (cQ.out _ m8.out).mono ?_
      rintro r w9 ⟨v9, er9, rfl, b9, ans9⟩
      have g9 := (Kept.of_below b9 0).same _ _ g8' (.inl rfl)
      have m9 := hid ((Kept.of_below b9 0).sl m8.out)
      have B9 := B8.trans (b9.mono (by have := B8.size; omega))
      have cE := hid (fun W (h1 : Sl W 35 encE (.slice p5 L c5) l) (h2 : Sl W 35 encE (.slice pl L cl) l) => by have h := Entries_any l l _ _ W h1 h2 hk hk (by omega) (by unfold maxLen; omega); rw [decide_eq_true (rfl : l = l)] at h; exact h)
      clear cQ hr8 g8' m8
      obtain ⟨KP, hKP⟩ : ∃ n, k + 1 = n := ⟨_, rfl⟩
      have hkw : IntKind.i64.wrap ((k : Int) + 1) = (KP : Int) := by rw [IntKind.wrap_i64]; omega
      have hKe : (Try.prog.info? 48).map (·.size) = some 35 := by kernel_rfl
      have hlL : l.length = L := hL.out
      cases fb with
      | true =>
        rcases ans8.out with ⟨-, rfl, rfl⟩ | ⟨h, -⟩
        rotate_left
        · cases h
        rcases ans9 with ⟨h, -⟩ | ⟨-, o9, hv9, rfl⟩
        · cases h
        obtain ⟨hrl, hpl⟩ := rem_len hfb.out
        rw [hke.out, hL.out] at hpl
        rw [hL.out] at hrl
        obtain ⟨LN, hLN⟩ : ∃ n, L - 1 = n := ⟨_, rfl⟩
        rw [hLN] at o9 hrl
        have hLw : IntKind.i64.wrap ((L : Int) - 1) = (LN : Int) := by rw [IntKind.wrap_i64]; omega
        have n9 := sl_of_owns (enc := encE) (l := remS l x.key) (fun y hy => by rw [encE_len, rem_key hk y hy]) (by rw [hrl]; exact o9)
        obtain ⟨p9, c9, rfl, -, -⟩ := owns_shape o9
        clear o9 hv9 ans8 g9 b9
        replace n9 := hid n9
        replace hrl := hid hrl
        replace hlL := hid hlL
        replace hLN := hid hLN
        replace hKP := hid hKP
        go_wp2_with (fail)
        refine (cE.out _ m9.out (hsB.out _ B9)).mono ?_
        rintro r w10 ⟨rfl, b10⟩
        have n10 : Sl w10.drew 35 encE (.slice p9 LN c9) (remS l x.key) := (Kept.drewN 0 w10 1).sl ((Kept.of_below b10 0).sl n9.out)
        have BR : Below n₀ w w10.drew := (B9.trans (b10.mono (by have := B9.size; omega))).drewN 1
        have s10 := hsB.out _ BR
        obtain ⟨sn1, hn1, hn1s, -⟩ := slice_take 22 48 35 Try.underlying22 hKe (k := k) (by rw [hrl.out]; have := hLN.out; omega) n10
        obtain ⟨sl1, hl1, hl1s, -⟩ := slice_take 22 48 35 Try.underlying22 hKe (k := k) (by rw [hlL.out]; omega) s10
        obtain ⟨sn2, hn2, hn2s, -⟩ := slice_drop 22 48 35 Try.underlying22 hKe (k := k) (by rw [hrl.out]; have := hLN.out; omega) n10
        obtain ⟨sl2, hl2, hl2s, -⟩ := slice_drop 22 48 35 Try.underlying22 hKe (k := KP) (by rw [hlL.out]; have := hKP.out; omega) s10
        have hst : Below w10.drew.heap.size w10.drew w10.drew := Below.refl _ _
        have nB : ∀ W, Below w10.drew.heap.size w10.drew W → Sl W 35 encE (.slice p9 LN c9) (remS l x.key) := fun W h => (Kept.of_below h 0).sl n10
        have lB : ∀ W, Below w10.drew.heap.size w10.drew W → Sl W 35 encE (.slice pl L cl) l := fun W h => (Kept.of_below h 0).sl s10
        have e1 : (remS l x.key).take k = l.take k := by rw [← hke.out]; exact rem_take l x.key
        have e2 : (remS l x.key).drop k = l.drop KP := by rw [← hKP.out, ← hke.out]; exact rem_drop l x.key
        have hlen : l.length ≤ 200 := by rw [hlL.out]; omega
        have cE1 := hid (fun W (h : Below w10.drew.heap.size w10.drew W) => by
          have h9 := Entries_any ((remS l x.key).take k) (l.take k) sn1 sl1 W (hn1s W (nB W h)) (hl1s W (lB W h)) (fun e he => rem_key hk e (List.mem_of_mem_take he)) (fun e he => hk e (List.mem_of_mem_take he)) (by rw [e1, List.length_take]; omega) (by unfold maxLen; rw [List.length_take]; omega)
          rw [decide_eq_true e1] at h9; exact h9)
        have cE2 := hid (fun W (h : Below w10.drew.heap.size w10.drew W) => by
          have h9 := Entries_any ((remS l x.key).drop k) (l.drop KP) sn2 sl2 W (hn2s W (nB W h)) (hl2s W (lB W h)) (fun e he => rem_key hk e (List.mem_of_mem_drop he)) (fun e he => hk e (List.mem_of_mem_drop he)) (by rw [e2, List.length_drop]; omega) (by unfold maxLen; rw [List.length_drop]; omega)
          rw [decide_eq_true e2] at h9; exact h9)
        have cW := hid (fun W (_ : Below w10.drew.heap.size w10.drew W) => wakes_any W)
        clear n10 s10 nB lB e1 e2 hn1s hl1s hn2s hl2s b10 B9 n9 m9
        replace hn1 := hid hn1
        replace hl1 := hid hl1
        replace hn2 := hid hn2
        replace hl2 := hid hl2
        go_upto_region 13 with (fail)
        refine wp_region_held_drew (S := (fun W => Below w10.drew.heap.size w10.drew W)) (by kernel_rfl) hst (fun hHeld => ?_)
        generalize w10.drew = wr at *
        refine wpAnyH_take (i := 0) (oi := ⟨some 89, _, _, _, _, _⟩) (v := ?_) rfl (by kernel_rfl) (by kernel_rfl) (by kernel_rfl) (fun _ _ _ h => h) (Or.inl ⟨by rfl, ?_⟩) (by assumption) ?_
        rotate_left
        · intro w hSw; (try dsimp only at hSw); go_simp <;> with_reducible rfl
        try simp only [Act.put, List.setIfInBounds_toArray, List.set_cons_zero, List.set_cons_succ]
        refine wpAnyH_take (i := 1) (oi := ⟨some 90, _, _, _, _, _⟩) (v := ?_) rfl (by kernel_rfl) (by kernel_rfl) (by kernel_rfl) (fun _ _ _ h => h) (Or.inl ⟨by rfl, ?_⟩) (by assumption) ?_
        rotate_left
        · intro w hSw; (try dsimp only at hSw); go_simp <;> with_reducible rfl
        try simp only [Act.put, List.setIfInBounds_toArray, List.set_cons_zero, List.set_cons_succ]
        refine wpAnyH_take (i := 2) (oi := ⟨some 91, _, _, _, _, _⟩) rfl (by kernel_rfl) (by kernel_rfl) (by kernel_rfl) (fun _ _ _ h => h) (yieldsIf_slice (by rfl) 22 _ _ _ rfl sn1 (by exact hn1.out)) (by assumption) ?_
        try simp only [Act.put, List.setIfInBounds_toArray, List.set_cons_zero, List.set_cons_succ]
        refine wpAnyH_take (i := 3) (oi := ⟨some 92, _, _, _, _, _⟩) (v := ?_) rfl (by kernel_rfl) (by kernel_rfl) (by kernel_rfl) (fun _ _ _ h => h) (Or.inl ⟨by rfl, ?_⟩) (by assumption) ?_
        rotate_left
        · intro w hSw; (try dsimp only at hSw); go_simp <;> with_reducible rfl
        try simp only [Act.put, List.setIfInBounds_toArray, List.set_cons_zero, List.set_cons_succ]
        refine wpAnyH_take (i := 4) (oi := ⟨some 93, _, _, _, _, _⟩) (v := ?_) rfl (by kernel_rfl) (by kernel_rfl) (by kernel_rfl) (fun _ _ _ h => h) (Or.inl ⟨by rfl, ?_⟩) (by assumption) ?_
        rotate_left
        · intro w hSw; (try dsimp only at hSw); go_simp <;> with_reducible rfl
        try simp only [Act.put, List.setIfInBounds_toArray, List.set_cons_zero, List.set_cons_succ]
        refine wpAnyH_take (i := 5) (oi := ⟨some 94, _, _, _, _, _⟩) rfl (by kernel_rfl) (by kernel_rfl) (by kernel_rfl) (fun _ _ _ h => h) (yieldsIf_slice (by rfl) 22 _ _ _ rfl sl1 (by exact hl1.out)) (by assumption) ?_
        try simp only [Act.put, List.setIfInBounds_toArray, List.set_cons_zero, List.set_cons_succ]
        refine wpAnyH_ready (rs := [6]) (by kernel_rfl) (by simp) ?_
        refine AllReadyH.cons rfl (fun K hK => ?_) AllReadyH.nil
        go_simp
        refine (cE1.out _ hHeld).mono ?_
        rintro r w7 ⟨rfl, b7⟩
        have b8 := hHeld.trans (b7.mono hHeld.size)
        clear hHeld b7
        refine hK.out _ _ (b8) (fun hHeld => ?_)
        clear hK K
        try simp only [Act.put, List.setIfInBounds_toArray, List.set_cons_zero, List.set_cons_succ]
        refine wpAnyH_take (i := 7) (oi := ⟨some 96, _, _, _, _, _⟩) (v := ?_) rfl (by kernel_rfl) (by kernel_rfl) (by kernel_rfl) (fun _ _ _ h => h) (Or.inl ⟨by rfl, ?_⟩) (by assumption) ?_
        rotate_left
        · intro w hSw; (try dsimp only at hSw); go_simp <;> with_reducible rfl
        try simp only [Act.put, List.setIfInBounds_toArray, List.set_cons_zero, List.set_cons_succ]
        refine wpAnyH_take (i := 8) (oi := ⟨some 97, _, _, _, _, _⟩) (v := ?_) rfl (by kernel_rfl) (by kernel_rfl) (by kernel_rfl) (fun _ _ _ h => h) (Or.inl ⟨by rfl, ?_⟩) (by assumption) ?_
        rotate_left
        · intro w hSw; (try dsimp only at hSw); go_simp <;> with_reducible rfl
        try simp only [Act.put, List.setIfInBounds_toArray, List.set_cons_zero, List.set_cons_succ]
        refine wpAnyH_take (i := 9) (oi := ⟨some 98, _, _, _, _, _⟩) (v := ?_) rfl (by kernel_rfl) (by kernel_rfl) (by kernel_rfl) (fun _ _ _ h => h) (Or.inl ⟨by rfl, ?_⟩) (by assumption) ?_
        rotate_left
        · intro w hSw; (try dsimp only at hSw); go_simp <;> with_reducible rfl
        try simp only [Act.put, List.setIfInBounds_toArray, List.set_cons_zero, List.set_cons_succ]
        refine wpAnyH_take (i := 10) (oi := ⟨some 99, _, _, _, _, _⟩) rfl (by kernel_rfl) (by kernel_rfl) (by kernel_rfl) (fun _ _ _ h => h) (yieldsIf_slice (by rfl) 22 _ _ _ rfl sn2 (by exact hn2.out)) (by assumption) ?_
        try simp only [Act.put, List.setIfInBounds_toArray, List.set_cons_zero, List.set_cons_succ]
        refine wpAnyH_take (i := 11) (oi := ⟨some 100, _, _, _, _, _⟩) (v := ?_) rfl (by kernel_rfl) (by kernel_rfl) (by kernel_rfl) (fun _ _ _ h => h) (Or.inl ⟨by rfl, ?_⟩) (by assumption) ?_
        rotate_left
        · intro w hSw; (try dsimp only at hSw); go_simp <;> with_reducible rfl
        try simp only [Act.put, List.setIfInBounds_toArray, List.set_cons_zero, List.set_cons_succ]
        refine wpAnyH_take (i := 12) (oi := ⟨some 101, _, _, _, _, _⟩) (v := ?_) rfl (by kernel_rfl) (by kernel_rfl) (by kernel_rfl) (fun _ _ _ h => h) (Or.inl ⟨by rfl, ?_⟩) (by assumption) ?_
        rotate_left
        · intro w hSw; (try dsimp only at hSw); go_simp <;> with_reducible rfl
        try simp only [Act.put, List.setIfInBounds_toArray, List.set_cons_zero, List.set_cons_succ]
        refine wpAnyH_take (i := 13) (oi := ⟨some 102, _, _, _, _, _⟩) (v := ?_) rfl (by kernel_rfl) (by kernel_rfl) (by kernel_rfl) (fun _ _ _ h => h) (Or.inl ⟨by rfl, ?_⟩) (by assumption) ?_
        rotate_left
        · intro w hSw; (try dsimp only at hSw); go_simp <;> with_reducible rfl
        try simp only [Act.put, List.setIfInBounds_toArray, List.set_cons_zero, List.set_cons_succ]
        refine wpAnyH_take (i := 14) (oi := ⟨some 103, _, _, _, _, _⟩) rfl (by kernel_rfl) (by kernel_rfl) (by kernel_rfl) (fun _ _ _ h => h) (yieldsIf_slice (by rfl) 22 _ _ _ rfl sl2 (by exact hl2.out)) (by assumption) ?_
        try simp only [Act.put, List.setIfInBounds_toArray, List.set_cons_zero, List.set_cons_succ]
        refine wpAnyH_ready (rs := [15]) (by kernel_rfl) (by simp) ?_
        refine AllReadyH.cons rfl (fun K hK => ?_) AllReadyH.nil
        go_simp
        refine (cE2.out _ hHeld).mono ?_
        rintro r w7 ⟨rfl, b7⟩
        have b8 := hHeld.trans (b7.mono hHeld.size)
        clear hHeld b7
        refine hK.out _ _ (b8) (fun hHeld => ?_)
        clear hK K
        try simp only [Act.put, List.setIfInBounds_toArray, List.set_cons_zero, List.set_cons_succ]
        refine wpAnyH_take (i := 16) (oi := ⟨some 105, _, _, _, _, _⟩) (v := ?_) rfl (by kernel_rfl) (by kernel_rfl) (by kernel_rfl) (fun _ _ _ h => h) (Or.inl ⟨by rfl, ?_⟩) (by assumption) ?_
        rotate_left
        · intro w hSw; (try dsimp only at hSw); go_simp <;> with_reducible rfl
        try simp only [Act.put, List.setIfInBounds_toArray, List.set_cons_zero, List.set_cons_succ]
        refine wpAnyH_take (i := 17) (oi := ⟨some 106, _, _, _, _, _⟩) (v := ?_) rfl (by kernel_rfl) (by kernel_rfl) (by kernel_rfl) (fun _ _ _ h => h) (Or.inl ⟨by rfl, ?_⟩) (by assumption) ?_
        rotate_left
        · intro w hSw; (try dsimp only at hSw); go_simp <;> with_reducible rfl
        try simp only [Act.put, List.setIfInBounds_toArray, List.set_cons_zero, List.set_cons_succ]
        refine wpAnyH_ready (rs := [18]) (by kernel_rfl) (by simp) ?_
        refine AllReadyH.cons rfl (fun K hK => ?_) AllReadyH.nil
        go_simp
        refine (cW.out _ hHeld).mono ?_
        rintro r w7 ⟨rfl, b7⟩
        have b8 := hHeld.trans (b7.mono hHeld.size)
        clear hHeld b7
        refine hK.out _ _ (b8) (fun hHeld => ?_)
        clear hK K
        try simp only [Act.put, List.setIfInBounds_toArray, List.set_cons_zero, List.set_cons_succ]
        refine wpAnyH_take (i := 19) (oi := ⟨some 108, _, _, _, _, _⟩) (v := ?_) rfl (by kernel_rfl) (by kernel_rfl) (by kernel_rfl) (fun _ _ _ h => h) (Or.inl ⟨by rfl, ?_⟩) (by assumption) ?_
        rotate_left
        · intro w hSw; (try dsimp only at hSw); go_simp <;> with_reducible rfl
        try simp only [Act.put, List.setIfInBounds_toArray, List.set_cons_zero, List.set_cons_succ]
        refine wpAnyH_take (i := 20) (oi := ⟨some 4, _, _, _, _, _⟩) (v := ?_) rfl (by kernel_rfl) (by kernel_rfl) (by kernel_rfl) (fun _ _ _ h => h) (Or.inl ⟨by rfl, ?_⟩) (by assumption) ?_
        rotate_left
        · intro w hSw; (try dsimp only at hSw); go_simp <;> with_reducible rfl
        try simp only [Act.put, List.setIfInBounds_toArray, List.set_cons_zero, List.set_cons_succ]
        refine wpAnyH_done (by kernel_rfl) ?_ _
        go_wp2_with (fail)
        go_ret
        subst hn₀
        exact ⟨rfl, BR.trans (hHeld.mono (by have := BR.size; omega))⟩
      | false =>
        rcases ans8.out with ⟨h, -⟩ | ⟨-, o8, -, rfl⟩
        · cases h
        rcases ans9 with ⟨-, rfl, rfl⟩ | ⟨h, -⟩
        rotate_left
        · cases h
        have hil : (insS l x).length = L + 1 := by rw [ins_len, hlL]
        have n9 := (Kept.of_below b9 0).sl (sl_of_owns (enc := encE) (l := insS l x) (fun y hy => by rw [encE_len, ins_key hk hkx y hy]) (by rw [hil]; exact o8))
        obtain ⟨g8, c8, rfl⟩ := ownsRow_succ o8
        obtain ⟨LM, hLM⟩ : ∃ n, L + 1 = n := ⟨_, rfl⟩
        have hLw : IntKind.i64.wrap ((L : Int) + 1) = (LM : Int) := by rw [IntKind.wrap_i64]; omega
        have hkM : (k : Int) < (LM : Int) := by omega
        rw [hLM] at n9 hil ⊢
        clear o8 ans8 b9
        replace n9 := hid n9
        replace hil := hid hil
        replace hlL := hid hlL
        replace hLM := hid hLM
        replace hKP := hid hKP
        replace g9 := hid g9
        go_wp2_with (fail)
        refine (cE.out _ m9.out (hsB.out _ B9)).mono ?_
        rintro r w10 ⟨rfl, b10⟩
        have n10 : Sl w10.drew 35 encE (.slice (some ⟨g8, 0, none⟩) LM c8) (insS l x) := (Kept.drewN 0 w10 1).sl ((Kept.of_below b10 0).sl n9.out)
        have g10 : w10.drew.heap[n₀]? = some (.cells (rowE x) 48 (0, 0)) := (Kept.of_below b10 0).same _ _ g9.out (.inl rfl)
        have BR : Below n₀ w w10.drew := (B9.trans (b10.mono (by have := B9.size; omega))).drewN 1
        have s10 := hsB.out _ BR
        obtain ⟨sn1, hn1, hn1s, -⟩ := slice_take 22 48 35 Try.underlying22 hKe (k := k) (by rw [hil.out]; have := hLM.out; omega) n10
        obtain ⟨sl1, hl1, hl1s, -⟩ := slice_take 22 48 35 Try.underlying22 hKe (k := k) (by rw [hlL.out]; omega) s10
        obtain ⟨sn2, hn2, hn2s, -⟩ := slice_drop 22 48 35 Try.underlying22 hKe (k := KP) (by rw [hil.out]; have := hLM.out; have := hKP.out; omega) n10
        obtain ⟨sl2, hl2, hl2s, -⟩ := slice_drop 22 48 35 Try.underlying22 hKe (k := k) (by rw [hlL.out]; omega) s10
        have hst : Below w10.drew.heap.size w10.drew w10.drew := Below.refl _ _
        have nB : ∀ W, Below w10.drew.heap.size w10.drew W → Sl W 35 encE (.slice (some ⟨g8, 0, none⟩) LM c8) (insS l x) := fun W h => (Kept.of_below h 0).sl n10
        have lB : ∀ W, Below w10.drew.heap.size w10.drew W → Sl W 35 encE (.slice pl L cl) l := fun W h => (Kept.of_below h 0).sl s10
        have hx2 : ∀ W, Below w10.drew.heap.size w10.drew W → W.rangeAt n₀ 0 (encE x) := fun W h => range_blk (cs := encE x) ((Kept.of_below h 0).same _ _ g10 (.inl rfl))
        have hx1 : ∀ W, Below w10.drew.heap.size w10.drew W → W.rangeAt g8 (k * 35) (encE x) := fun W h => by
          obtain ⟨b', o', c', he', -, -, hc⟩ := (nB W h).open (by intro e; have h9 := hil.out; rw [e] at h9; simp at h9; have := hLM.out; omega)
          obtain ⟨h1, -⟩ := Value.slice.inj he'
          obtain ⟨rfl, rfl, -⟩ := Addr.mk.inj (Option.some.inj h1)
          have h9 := hc k x (by rw [ins_get, hke.out, if_neg (Nat.lt_irrefl _), if_pos rfl])
          rwa [Nat.zero_add] at h9
        have hq : ∀ W, (binOp .neq 48 (.agg (encE x).toArray) (.agg (encE x).toArray)).run Try.prog W = .ok (.bool false) W := fun W => by
          have h := run_neq_ent x x hkx hkx W
          rw [decide_eq_true (rfl : x = x)] at h; exact h
        have e1 : (insS l x).take k = l.take k := by rw [← hke.out]; exact ins_take l x
        have e2 : (insS l x).drop KP = l.drop k := by rw [← hKP.out, ← hke.out]; exact ins_drop l x
        have hir := ins_rises hrb.out hfb.out
        have hlen : l.length ≤ 200 := by rw [hlL.out]; omega
        have cE1 := hid (fun W (h : Below w10.drew.heap.size w10.drew W) => by
          have h9 := Entries_any ((insS l x).take k) (l.take k) sn1 sl1 W (hn1s W (nB W h)) (hl1s W (lB W h)) (fun e he => ins_key hk hkx e (List.mem_of_mem_take he)) (fun e he => hk e (List.mem_of_mem_take he)) (by rw [e1, List.length_take]; omega) (by unfold maxLen; rw [List.length_take]; omega)
          rw [decide_eq_true e1] at h9; exact h9)
        have cE2 := hid (fun W (h : Below w10.drew.heap.size w10.drew W) => by
          have h9 := Entries_any ((insS l x).drop KP) (l.drop k) sn2 sl2 W (hn2s W (nB W h)) (hl2s W (lB W h)) (fun e he => ins_key hk hkx e (List.mem_of_mem_drop he)) (fun e he => hk e (List.mem_of_mem_drop he)) (by rw [e2, List.length_drop]; omega) (by unfold maxLen; rw [List.length_drop]; omega)
          rw [decide_eq_true e2] at h9; exact h9)
        have cR2 := hid (fun W (h : Below w10.drew.heap.size w10.drew W) => by
          have h9 := Rising_any (insS l x) _ W (nB W h) (ins_key hk hkx) (by rw [hil.out]; have := hLM.out; omega)
          rw [hir] at h9; exact h9)
        have cQ2 := hid (fun W (h : Below w10.drew.heap.size w10.drew W) => by
          have h9 := Remove_any (insS l x) x.key (some ⟨g8, 0, none⟩) c8 W (by rw [hil.out]; exact nB W h) (by rw [hil.out]; have := hLM.out; omega) (ins_key hk hkx) hkx (rises_mono hir x.key)
          rw [ins_found, rem_ins, hil.out] at h9; exact h9)
        have cE3 := hid (fun W v' (h1 : Sl W 35 encE v' l) (h2 : Sl W 35 encE (.slice pl L cl) l) => by have h := Entries_any l l v' _ W h1 h2 hk hk (by omega) (by unfold maxLen; omega); rw [decide_eq_true (rfl : l = l)] at h; exact h)
        clear n10 s10 nB e1 e2 hn1s hl1s hn2s hl2s b10 B9 n9 m9 g9 g10 hir
        replace hn1 := hid hn1
        replace hl1 := hid hl1
        replace hn2 := hid hn2
        replace hl2 := hid hl2
        replace hx1 := hid hx1
        replace hx2 := hid hx2
        replace lB := hid lB
        go_upto_region 14 with (fail)
        refine wp_region_held_drew (S := (fun W => Below w10.drew.heap.size w10.drew W)) (by kernel_rfl) hst (fun hHeld => ?_)
        generalize w10.drew = wr at *
        refine wpAnyH_take (i := 0) (oi := ⟨some 109, _, _, _, _, _⟩) (v := ?_) rfl (by kernel_rfl) (by kernel_rfl) (by kernel_rfl) (fun _ _ _ h => h) (Or.inl ⟨by rfl, ?_⟩) (by assumption) ?_
        rotate_left
        · intro w hSw; (try dsimp only at hSw); go_simp <;> with_reducible rfl
        try simp only [Act.put, List.setIfInBounds_toArray, List.set_cons_zero, List.set_cons_succ]
        refine wpAnyH_take (i := 1) (oi := ⟨some 110, _, _, _, _, _⟩) (v := ?_) rfl (by kernel_rfl) (by kernel_rfl) (by kernel_rfl) (fun _ _ _ h => h) (Or.inl ⟨by rfl, ?_⟩) (by assumption) ?_
        rotate_left
        · intro w hSw; (try dsimp only at hSw); go_simp <;> with_reducible rfl
        try simp only [Act.put, List.setIfInBounds_toArray, List.set_cons_zero, List.set_cons_succ]
        refine wpAnyH_take (i := 2) (oi := ⟨some 111, _, _, _, _, _⟩) (v := ?_) rfl (by kernel_rfl) (by kernel_rfl) (by kernel_rfl) (fun _ _ _ h => h) (Or.inl ⟨by rfl, ?_⟩) (by assumption) ?_
        rotate_left
        · intro w hSw; (try dsimp only at hSw); go_simp <;> with_reducible rfl
        try simp only [Act.put, List.setIfInBounds_toArray, List.set_cons_zero, List.set_cons_succ]
        refine wpAnyH_take (i := 3) (oi := ⟨some 112, _, _, _, _, _⟩) (v := ?_) rfl (by kernel_rfl) (by kernel_rfl) (by kernel_rfl) (fun _ _ _ h => h) (Or.inl ⟨by rfl, ?_⟩) (by assumption) ?_
        rotate_left
        · intro w hSw; (try dsimp only at hSw); go_simp <;> with_reducible rfl
        try simp only [Act.put, List.setIfInBounds_toArray, List.set_cons_zero, List.set_cons_succ]
        refine wpAnyH_take (i := 4) (oi := ⟨some 113, _, _, _, _, _⟩) (v := ?_) rfl (by kernel_rfl) (by kernel_rfl) (by kernel_rfl) (fun _ _ _ h => h) (Or.inl ⟨by rfl, ?_⟩) (by assumption) ?_
        rotate_left
        · intro w hSw; (try dsimp only at hSw); go_simp <;> with_reducible rfl
        try simp only [Act.put, List.setIfInBounds_toArray, List.set_cons_zero, List.set_cons_succ]
        refine wpAnyH_take (i := 5) (oi := ⟨some 114, _, _, _, _, _⟩) (v := ?_) rfl (by kernel_rfl) (by kernel_rfl) (by kernel_rfl) (fun _ _ _ h => h) (Or.inl ⟨by rfl, ?_⟩) (by assumption) ?_
        rotate_left
        · intro w hSw; (try dsimp only at hSw); go_simp <;> with_reducible rfl
        try simp only [Act.put, List.setIfInBounds_toArray, List.set_cons_zero, List.set_cons_succ]
        refine wpAnyH_take (i := 6) (oi := ⟨some 115, _, _, _, _, _⟩) (v := ?_) rfl (by kernel_rfl) (by kernel_rfl) (by kernel_rfl) (fun _ _ _ h => h) (Or.inl ⟨by rfl, ?_⟩) (by assumption) ?_
        rotate_left
        · intro w hSw; (try dsimp only at hSw); go_simp <;> with_reducible rfl
        try simp only [Act.put, List.setIfInBounds_toArray, List.set_cons_zero, List.set_cons_succ]
        refine wpAnyH_take (i := 7) (oi := ⟨some 116, _, _, _, _, _⟩) (v := ?_) rfl (by kernel_rfl) (by kernel_rfl) (by kernel_rfl) (fun _ _ _ h => h) (Or.inl ⟨by rfl, ?_⟩) (by assumption) ?_
        rotate_left
        · intro w hSw; (try dsimp only at hSw); go_simp <;> with_reducible rfl
        try simp only [Act.put, List.setIfInBounds_toArray, List.set_cons_zero, List.set_cons_succ]
        refine wpAnyH_take (i := 8) (oi := ⟨some 117, _, _, _, _, _⟩) (v := ?_) rfl (by kernel_rfl) (by kernel_rfl) (by kernel_rfl) (fun _ _ _ h => h) (Or.inl ⟨by rfl, ?_⟩) (by assumption) ?_
        rotate_left
        · intro w hSw; (try dsimp only at hSw); go_simp <;> with_reducible rfl
        try simp only [Act.put, List.setIfInBounds_toArray, List.set_cons_zero, List.set_cons_succ]
        refine wpAnyH_take (i := 9) (oi := ⟨some 118, _, _, _, _, _⟩) (v := ?_) rfl (by kernel_rfl) (by kernel_rfl) (by kernel_rfl) (fun _ _ _ h => h) (Or.inl ⟨by rfl, ?_⟩) (by assumption) ?_
        rotate_left
        · intro w hSw; (try dsimp only at hSw); go_simp <;> with_reducible rfl
        try simp only [Act.put, List.setIfInBounds_toArray, List.set_cons_zero, List.set_cons_succ]
        refine wpAnyH_take (i := 10) (oi := ⟨some 119, _, _, _, _, _⟩) (v := ?_) rfl (by kernel_rfl) (by kernel_rfl) (by kernel_rfl) (fun _ _ _ h => h) (Or.inl ⟨by rfl, ?_⟩) (by assumption) ?_
        rotate_left
        · intro w hSw; (try dsimp only at hSw); go_simp <;> with_reducible rfl
        try simp only [Act.put, List.setIfInBounds_toArray, List.set_cons_zero, List.set_cons_succ]
        refine wpAnyH_take (i := 11) (oi := ⟨some 120, _, _, _, _, _⟩) (v := ?_) rfl (by kernel_rfl) (by kernel_rfl) (by kernel_rfl) (fun _ _ _ h => h) (Or.inl ⟨by rfl, ?_⟩) (by assumption) ?_
        rotate_left
        · intro w hSw; (try dsimp only at hSw); go_simp <;> with_reducible rfl
        try simp only [Act.put, List.setIfInBounds_toArray, List.set_cons_zero, List.set_cons_succ]
        refine wpAnyH_take (i := 12) (oi := ⟨some 121, _, _, _, _, _⟩) (v := ?_) rfl (by kernel_rfl) (by kernel_rfl) (by kernel_rfl) (fun _ _ _ h => h) (Or.inl ⟨by rfl, ?_⟩) (by assumption) ?_
        rotate_left
        · intro w hSw; (try dsimp only at hSw); go_simp <;> with_reducible rfl
        try simp only [Act.put, List.setIfInBounds_toArray, List.set_cons_zero, List.set_cons_succ]
        refine wpAnyH_take (i := 13) (oi := ⟨some 122, _, _, _, _, _⟩) (v := ?_) rfl (by kernel_rfl) (by kernel_rfl) (by kernel_rfl) (fun _ _ _ h => h) (Or.inl ⟨by rfl, ?_⟩) (by assumption) ?_
        rotate_left
        · intro w hSw; (try dsimp only at hSw); go_simp <;> with_reducible rfl
        try simp only [Act.put, List.setIfInBounds_toArray, List.set_cons_zero, List.set_cons_succ]
        refine wpAnyH_take (i := 14) (oi := ⟨some 123, _, _, _, _, _⟩) (v := ?_) rfl (by kernel_rfl) (by kernel_rfl) (by kernel_rfl) (fun _ _ _ h => h) (Or.inl ⟨by rfl, ?_⟩) (by assumption) ?_
        rotate_left
        · intro w hSw; (try dsimp only at hSw); go_simp <;> with_reducible rfl
        try simp only [Act.put, List.setIfInBounds_toArray, List.set_cons_zero, List.set_cons_succ]
        refine wpAnyH_take (i := 15) (oi := ⟨some 124, _, _, _, _, _⟩) (v := ?_) rfl (by kernel_rfl) (by kernel_rfl) (by kernel_rfl) (fun _ _ _ h => h) (Or.inl ⟨by rfl, ?_⟩) (by assumption) ?_
        rotate_left
        · intro w hSw; (try dsimp only at hSw); go_simp <;> with_reducible rfl
        try simp only [Act.put, List.setIfInBounds_toArray, List.set_cons_zero, List.set_cons_succ]
        refine wpAnyH_take (i := 16) (oi := ⟨some 125, _, _, _, _, _⟩) (v := ?_) rfl (by kernel_rfl) (by kernel_rfl) (by kernel_rfl) (fun _ _ _ h => h) (Or.inl ⟨by rfl, ?_⟩) (by assumption) ?_
        rotate_left
        · intro w hSw; (try dsimp only at hSw); go_simp <;> with_reducible rfl
        try simp only [Act.put, List.setIfInBounds_toArray, List.set_cons_zero, List.set_cons_succ]
        refine wpAnyH_take (i := 17) (oi := ⟨some 126, _, _, _, _, _⟩) (v := ?_) rfl (by kernel_rfl) (by kernel_rfl) (by kernel_rfl) (fun _ _ _ h => h) (Or.inl ⟨by rfl, ?_⟩) (by assumption) ?_
        rotate_left
        · intro w hSw; (try dsimp only at hSw); go_simp <;> with_reducible rfl
        try simp only [Act.put, List.setIfInBounds_toArray, List.set_cons_zero, List.set_cons_succ]
        refine wpAnyH_take (i := 18) (oi := ⟨some 127, _, _, _, _, _⟩) (v := ?_) rfl (by kernel_rfl) (by kernel_rfl) (by kernel_rfl) (fun _ _ _ h => h) (Or.inl ⟨by rfl, ?_⟩) (by assumption) ?_
        rotate_left
        · intro w hSw; (try dsimp only at hSw); go_simp <;> with_reducible rfl
        try simp only [Act.put, List.setIfInBounds_toArray, List.set_cons_zero, List.set_cons_succ]
        refine wpAnyH_take (i := 19) (oi := ⟨some 128, _, _, _, _, _⟩) (v := ?_) rfl (by kernel_rfl) (by kernel_rfl) (by kernel_rfl) (fun _ _ _ h => h) (Or.inl ⟨by rfl, ?_⟩) (by assumption) ?_
        rotate_left
        · intro w hSw; (try dsimp only at hSw); go_simp <;> with_reducible rfl
        try simp only [Act.put, List.setIfInBounds_toArray, List.set_cons_zero, List.set_cons_succ]
        refine wpAnyH_take (i := 20) (oi := ⟨some 129, _, _, _, _, _⟩) (v := ?_) rfl (by kernel_rfl) (by kernel_rfl) (by kernel_rfl) (fun _ _ _ h => h) (Or.inl ⟨by rfl, ?_⟩) (by assumption) ?_
        rotate_left
        · intro w hSw; (try dsimp only at hSw); go_simp <;> with_reducible rfl
        try simp only [Act.put, List.setIfInBounds_toArray, List.set_cons_zero, List.set_cons_succ]
        refine wpAnyH_take (i := 21) (oi := ⟨some 130, _, _, _, _, _⟩) (v := ?_) rfl (by kernel_rfl) (by kernel_rfl) (by kernel_rfl) (fun _ _ _ h => h) (Or.inl ⟨by rfl, ?_⟩) (by assumption) ?_
        rotate_left
        · intro w hSw; (try dsimp only at hSw); go_simp <;> with_reducible rfl
        try simp only [Act.put, List.setIfInBounds_toArray, List.set_cons_zero, List.set_cons_succ]
        refine wpAnyH_take (i := 22) (oi := ⟨some 131, _, _, _, _, _⟩) (v := ?_) rfl (by kernel_rfl) (by kernel_rfl) (by kernel_rfl) (fun _ _ _ h => h) (Or.inl ⟨by rfl, ?_⟩) (by assumption) ?_
        rotate_left
        · intro w hSw; (try dsimp only at hSw); go_simp <;> with_reducible rfl
        try simp only [Act.put, List.setIfInBounds_toArray, List.set_cons_zero, List.set_cons_succ]
        refine wpAnyH_take (i := 23) (oi := ⟨some 132, _, _, _, _, _⟩) rfl (by kernel_rfl) (by kernel_rfl) (by kernel_rfl) (fun _ _ _ h => h) (yieldsIf_load_mid (by rfl) 48 _ rfl g8 (k * 35) rfl (encE x) _ (fun w h => hx1.out w h) Try.underlying48 rfl hix) (by assumption) ?_
        try simp only [Act.put, List.setIfInBounds_toArray, List.set_cons_zero, List.set_cons_succ]
        refine wpAnyH_take (i := 24) (oi := ⟨some 133, _, _, _, _, _⟩) rfl (by kernel_rfl) (by kernel_rfl) (by kernel_rfl) (fun _ _ _ h => h) (yieldsIf_load_mid (by rfl) 48 _ rfl n₀ 0 rfl (encE x) _ (fun w h => hx2.out w h) Try.underlying48 rfl hix) (by assumption) ?_
        try simp only [Act.put, List.setIfInBounds_toArray, List.set_cons_zero, List.set_cons_succ]
        refine wpAnyH_take (i := 25) (oi := ⟨some 134, _, _, _, _, _⟩) (v := ?_) rfl (by kernel_rfl) (by kernel_rfl) (by kernel_rfl) (fun _ _ _ h => h) (Or.inl ⟨by rfl, ?_⟩) (by assumption) ?_
        rotate_left
        · intro w hSw; (try dsimp only at hSw); go_simp <;> with_reducible rfl
        try simp only [Act.put, List.setIfInBounds_toArray, List.set_cons_zero, List.set_cons_succ]
        refine wpAnyH_take (i := 26) (oi := ⟨some 135, _, _, _, _, _⟩) (v := ?_) rfl (by kernel_rfl) (by kernel_rfl) (by kernel_rfl) (fun _ _ _ h => h) (Or.inl ⟨by rfl, ?_⟩) (by assumption) ?_
        rotate_left
        · intro w hSw; (try dsimp only at hSw); go_simp <;> with_reducible rfl
        try simp only [Act.put, List.setIfInBounds_toArray, List.set_cons_zero, List.set_cons_succ]
        refine wpAnyH_take (i := 27) (oi := ⟨some 136, _, _, _, _, _⟩) (v := ?_) rfl (by kernel_rfl) (by kernel_rfl) (by kernel_rfl) (fun _ _ _ h => h) (Or.inl ⟨by rfl, ?_⟩) (by assumption) ?_
        rotate_left
        · intro w hSw; (try dsimp only at hSw); go_simp <;> with_reducible rfl
        try simp only [Act.put, List.setIfInBounds_toArray, List.set_cons_zero, List.set_cons_succ]
        refine wpAnyH_take (i := 28) (oi := ⟨some 137, _, _, _, _, _⟩) (v := ?_) rfl (by kernel_rfl) (by kernel_rfl) (by kernel_rfl) (fun _ _ _ h => h) (Or.inl ⟨by rfl, ?_⟩) (by assumption) ?_
        rotate_left
        · intro w hSw; (try dsimp only at hSw); go_simp <;> with_reducible rfl
        try simp only [Act.put, List.setIfInBounds_toArray, List.set_cons_zero, List.set_cons_succ]
        refine wpAnyH_take (i := 29) (oi := ⟨some 138, _, _, _, _, _⟩) (v := ?_) rfl (by kernel_rfl) (by kernel_rfl) (by kernel_rfl) (fun _ _ _ h => h) (Or.inl ⟨by rfl, ?_⟩) (by assumption) ?_
        rotate_left
        · intro w hSw; (try dsimp only at hSw); go_simp <;> with_reducible rfl
        try simp only [Act.put, List.setIfInBounds_toArray, List.set_cons_zero, List.set_cons_succ]
        refine wpAnyH_take (i := 30) (oi := ⟨some 139, _, _, _, _, _⟩) rfl (by kernel_rfl) (by kernel_rfl) (by kernel_rfl) (fun _ _ _ h => h) (yieldsIf_slice (by rfl) 22 _ _ _ rfl sn1 (by exact hn1.out)) (by assumption) ?_
        try simp only [Act.put, List.setIfInBounds_toArray, List.set_cons_zero, List.set_cons_succ]
        refine wpAnyH_take (i := 31) (oi := ⟨some 140, _, _, _, _, _⟩) (v := ?_) rfl (by kernel_rfl) (by kernel_rfl) (by kernel_rfl) (fun _ _ _ h => h) (Or.inl ⟨by rfl, ?_⟩) (by assumption) ?_
        rotate_left
        · intro w hSw; (try dsimp only at hSw); go_simp <;> with_reducible rfl
        try simp only [Act.put, List.setIfInBounds_toArray, List.set_cons_zero, List.set_cons_succ]
        refine wpAnyH_take (i := 32) (oi := ⟨some 141, _, _, _, _, _⟩) (v := ?_) rfl (by kernel_rfl) (by kernel_rfl) (by kernel_rfl) (fun _ _ _ h => h) (Or.inl ⟨by rfl, ?_⟩) (by assumption) ?_
        rotate_left
        · intro w hSw; (try dsimp only at hSw); go_simp <;> with_reducible rfl
        try simp only [Act.put, List.setIfInBounds_toArray, List.set_cons_zero, List.set_cons_succ]
        refine wpAnyH_take (i := 33) (oi := ⟨some 142, _, _, _, _, _⟩) rfl (by kernel_rfl) (by kernel_rfl) (by kernel_rfl) (fun _ _ _ h => h) (yieldsIf_slice (by rfl) 22 _ _ _ rfl sl1 (by exact hl1.out)) (by assumption) ?_
        try simp only [Act.put, List.setIfInBounds_toArray, List.set_cons_zero, List.set_cons_succ]
        refine wpAnyH_ready (rs := [34]) (by kernel_rfl) (by simp) ?_
        refine AllReadyH.cons rfl (fun K hK => ?_) AllReadyH.nil
        go_simp
        refine (cE1.out _ hHeld).mono ?_
        rintro r w7 ⟨rfl, b7⟩
        have b8 := hHeld.trans (b7.mono hHeld.size)
        clear hHeld b7
        refine hK.out _ _ (b8) (fun hHeld => ?_)
        clear hK K
        try simp only [Act.put, List.setIfInBounds_toArray, List.set_cons_zero, List.set_cons_succ]
        refine wpAnyH_take (i := 35) (oi := ⟨some 144, _, _, _, _, _⟩) (v := ?_) rfl (by kernel_rfl) (by kernel_rfl) (by kernel_rfl) (fun _ _ _ h => h) (Or.inl ⟨by rfl, ?_⟩) (by assumption) ?_
        rotate_left
        · intro w hSw; (try dsimp only at hSw); go_simp <;> with_reducible rfl
        try simp only [Act.put, List.setIfInBounds_toArray, List.set_cons_zero, List.set_cons_succ]
        refine wpAnyH_take (i := 36) (oi := ⟨some 145, _, _, _, _, _⟩) (v := ?_) rfl (by kernel_rfl) (by kernel_rfl) (by kernel_rfl) (fun _ _ _ h => h) (Or.inl ⟨by rfl, ?_⟩) (by assumption) ?_
        rotate_left
        · intro w hSw; (try dsimp only at hSw); go_simp <;> with_reducible rfl
        try simp only [Act.put, List.setIfInBounds_toArray, List.set_cons_zero, List.set_cons_succ]
        refine wpAnyH_take (i := 37) (oi := ⟨some 146, _, _, _, _, _⟩) (v := ?_) rfl (by kernel_rfl) (by kernel_rfl) (by kernel_rfl) (fun _ _ _ h => h) (Or.inl ⟨by rfl, ?_⟩) (by assumption) ?_
        rotate_left
        · intro w hSw; (try dsimp only at hSw); go_simp <;> with_reducible rfl
        try simp only [Act.put, List.setIfInBounds_toArray, List.set_cons_zero, List.set_cons_succ]
        refine wpAnyH_take (i := 38) (oi := ⟨some 147, _, _, _, _, _⟩) (v := ?_) rfl (by kernel_rfl) (by kernel_rfl) (by kernel_rfl) (fun _ _ _ h => h) (Or.inl ⟨by rfl, ?_⟩) (by assumption) ?_
        rotate_left
        · intro w hSw; (try dsimp only at hSw); go_simp <;> with_reducible rfl
        try simp only [Act.put, List.setIfInBounds_toArray, List.set_cons_zero, List.set_cons_succ]
        refine wpAnyH_take (i := 39) (oi := ⟨some 148, _, _, _, _, _⟩) (v := ?_) rfl (by kernel_rfl) (by kernel_rfl) (by kernel_rfl) (fun _ _ _ h => h) (Or.inl ⟨by rfl, ?_⟩) (by assumption) ?_
        rotate_left
        · intro w hSw; (try dsimp only at hSw); go_simp <;> with_reducible rfl
        try simp only [Act.put, List.setIfInBounds_toArray, List.set_cons_zero, List.set_cons_succ]
        refine wpAnyH_take (i := 40) (oi := ⟨some 149, _, _, _, _, _⟩) (v := ?_) rfl (by kernel_rfl) (by kernel_rfl) (by kernel_rfl) (fun _ _ _ h => h) (Or.inl ⟨by rfl, ?_⟩) (by assumption) ?_
        rotate_left
        · intro w hSw; (try dsimp only at hSw); go_simp <;> with_reducible rfl
        try simp only [Act.put, List.setIfInBounds_toArray, List.set_cons_zero, List.set_cons_succ]
        refine wpAnyH_take (i := 41) (oi := ⟨some 150, _, _, _, _, _⟩) rfl (by kernel_rfl) (by kernel_rfl) (by kernel_rfl) (fun _ _ _ h => h) (yieldsIf_slice (by rfl) 22 _ _ _ rfl sn2 (by exact hn2.out)) (by assumption) ?_
        try simp only [Act.put, List.setIfInBounds_toArray, List.set_cons_zero, List.set_cons_succ]
        refine wpAnyH_take (i := 42) (oi := ⟨some 151, _, _, _, _, _⟩) (v := ?_) rfl (by kernel_rfl) (by kernel_rfl) (by kernel_rfl) (fun _ _ _ h => h) (Or.inl ⟨by rfl, ?_⟩) (by assumption) ?_
        rotate_left
        · intro w hSw; (try dsimp only at hSw); go_simp <;> with_reducible rfl
        try simp only [Act.put, List.setIfInBounds_toArray, List.set_cons_zero, List.set_cons_succ]
        refine wpAnyH_take (i := 43) (oi := ⟨some 152, _, _, _, _, _⟩) (v := ?_) rfl (by kernel_rfl) (by kernel_rfl) (by kernel_rfl) (fun _ _ _ h => h) (Or.inl ⟨by rfl, ?_⟩) (by assumption) ?_
        rotate_left
        · intro w hSw; (try dsimp only at hSw); go_simp <;> with_reducible rfl
        try simp only [Act.put, List.setIfInBounds_toArray, List.set_cons_zero, List.set_cons_succ]
        refine wpAnyH_take (i := 44) (oi := ⟨some 153, _, _, _, _, _⟩) rfl (by kernel_rfl) (by kernel_rfl) (by kernel_rfl) (fun _ _ _ h => h) (yieldsIf_slice (by rfl) 22 _ _ _ rfl sl2 (by exact hl2.out)) (by assumption) ?_
        try simp only [Act.put, List.setIfInBounds_toArray, List.set_cons_zero, List.set_cons_succ]
        refine wpAnyH_ready (rs := [45]) (by kernel_rfl) (by simp) ?_
        refine AllReadyH.cons rfl (fun K hK => ?_) AllReadyH.nil
        go_simp
        refine (cE2.out _ hHeld).mono ?_
        rintro r w7 ⟨rfl, b7⟩
        have b8 := hHeld.trans (b7.mono hHeld.size)
        clear hHeld b7
        refine hK.out _ _ (b8) (fun hHeld => ?_)
        clear hK K
        try simp only [Act.put, List.setIfInBounds_toArray, List.set_cons_zero, List.set_cons_succ]
        refine wpAnyH_take (i := 46) (oi := ⟨some 155, _, _, _, _, _⟩) (v := ?_) rfl (by kernel_rfl) (by kernel_rfl) (by kernel_rfl) (fun _ _ _ h => h) (Or.inl ⟨by rfl, ?_⟩) (by assumption) ?_
        rotate_left
        · intro w hSw; (try dsimp only at hSw); go_simp <;> with_reducible rfl
        try simp only [Act.put, List.setIfInBounds_toArray, List.set_cons_zero, List.set_cons_succ]
        refine wpAnyH_take (i := 47) (oi := ⟨some 156, _, _, _, _, _⟩) (v := ?_) rfl (by kernel_rfl) (by kernel_rfl) (by kernel_rfl) (fun _ _ _ h => h) (Or.inl ⟨by rfl, ?_⟩) (by assumption) ?_
        rotate_left
        · intro w hSw; (try dsimp only at hSw); go_simp <;> with_reducible rfl
        try simp only [Act.put, List.setIfInBounds_toArray, List.set_cons_zero, List.set_cons_succ]
        refine wpAnyH_take (i := 48) (oi := ⟨some 157, _, _, _, _, _⟩) (v := ?_) rfl (by kernel_rfl) (by kernel_rfl) (by kernel_rfl) (fun _ _ _ h => h) (Or.inl ⟨by rfl, ?_⟩) (by assumption) ?_
        rotate_left
        · intro w hSw; (try dsimp only at hSw); go_simp <;> with_reducible rfl
        try simp only [Act.put, List.setIfInBounds_toArray, List.set_cons_zero, List.set_cons_succ]
        refine wpAnyH_take (i := 49) (oi := ⟨some 158, _, _, _, _, _⟩) (v := ?_) rfl (by kernel_rfl) (by kernel_rfl) (by kernel_rfl) (fun _ _ _ h => h) (Or.inl ⟨by rfl, ?_⟩) (by assumption) ?_
        rotate_left
        · intro w hSw; (try dsimp only at hSw); go_simp <;> with_reducible rfl
        try simp only [Act.put, List.setIfInBounds_toArray, List.set_cons_zero, List.set_cons_succ]
        refine wpAnyH_ready (rs := [50]) (by kernel_rfl) (by simp) ?_
        refine AllReadyH.cons rfl (fun K hK => ?_) AllReadyH.nil
        go_simp
        refine (cR2.out _ hHeld).mono ?_
        rintro r w7 ⟨rfl, b7⟩
        have b8 := hHeld.trans (b7.mono hHeld.size)
        clear hHeld b7
        refine hK.out _ _ (b8) (fun hHeld => ?_)
        clear hK K
        try simp only [Act.put, List.setIfInBounds_toArray, List.set_cons_zero, List.set_cons_succ]
        refine wpAnyH_take (i := 51) (oi := ⟨some 160, _, _, _, _, _⟩) (v := ?_) rfl (by kernel_rfl) (by kernel_rfl) (by kernel_rfl) (fun _ _ _ h => h) (Or.inl ⟨by rfl, ?_⟩) (by assumption) ?_
        rotate_left
        · intro w hSw; (try dsimp only at hSw); go_simp <;> with_reducible rfl
        try simp only [Act.put, List.setIfInBounds_toArray, List.set_cons_zero, List.set_cons_succ]
        refine wpAnyH_take (i := 52) (oi := ⟨some 161, _, _, _, _, _⟩) (v := ?_) rfl (by kernel_rfl) (by kernel_rfl) (by kernel_rfl) (fun _ _ _ h => h) (Or.inl ⟨by rfl, ?_⟩) (by assumption) ?_
        rotate_left
        · intro w hSw; (try dsimp only at hSw); go_simp <;> with_reducible rfl
        try simp only [Act.put, List.setIfInBounds_toArray, List.set_cons_zero, List.set_cons_succ]
        refine wpAnyH_done (by kernel_rfl) ?_ _
        skip
        have hrF := range_key (hx2.out _ hHeld)
        go_wp2_with (refine wpList_load_mid rfl 46 _ rfl n₀ 0 rfl (keyV x.key) _ hrF Try.underlying46 rfl hik ?_)
        refine (cQ2.out _ hHeld).mono ?_
        rintro r w11 ⟨v11, er11, rfl, b11, ans11⟩
        rcases ans11 with ⟨h, -⟩ | ⟨-, o11, -, rfl⟩
        · cases h
        have m11 := sl_of_owns (enc := encE) (l := l) (fun y hy => by rw [encE_len, hk y hy]) (by rw [show l.length = LM - 1 by rw [hlL.out]; have := hLM.out; omega]; exact o11)
        have B11 := (BR.trans (hHeld.mono (by have := BR.size; omega))).trans (b11.mono (by have := BR.size; have := hHeld.size; omega))
        obtain ⟨p11, c11, rfl, -, -⟩ := owns_shape o11
        clear o11 hrF hHeld b11
        replace m11 := hid m11
        go_wp2_with (fail)
        refine (cE3.out _ _ m11.out (hsB.out _ B11)).mono ?_
        rintro r w12 ⟨rfl, b12⟩
        have B12 := B11.trans (b12.mono (by have := B11.size; omega))
        clear b12 B11
        go_wp2_with (fail)
        refine (wakes_any _).mono ?_
        rintro r w13 ⟨rfl, b13⟩
        have B13 := B12.trans (b13.mono (by have := B12.size; omega))
        clear b13
        go_wp2_with (fail)
        go_ret
        subst hn₀
        exact ⟨rfl, B13⟩
end Go.Proofs.Ytomgjapjeckokaa
namespace Go.Proofs.Ytomgjapjeckokaa
open Go.ChangeShapes Go.WideShapes Go.ChangeAt Go.RowKit

section
variable {H : Type} {enc : TypeId × Value → H} {P : Program}
/-- a slice of rows that came in, each read by its own law -/
theorem open_rows {α : Type} [Inhabited α] {ec : α → List Value} {Pr : α → Prop} {t e : TypeId} {n : Nat} {W : World} {base : Nat} {v : Value} {d : DataW H} {p : List MemPlace} (ht : P.underlying t = some (.slice e)) (hce : P.cellsOf e = n) (hn : 0 < n)
    (hone : ∀ (fuel : Nat) (cs : List Value) (x : DataW H × List MemPlace), cs.length = n → DataW.trod enc P W 0 (fun _ => true) true fuel e cs = some x → ∃ y : α, cs = ec y ∧ Pr y)
    (hok : Value.okWide P W .any base t v) (h : DataW.Trod enc P W 0 (fun _ => true) true t v d p) : ∃ l : List α, (∀ y ∈ l, Pr y) ∧ Sl W n ec v l := by
  obtain ⟨a0, len, cap, rfl⟩ := okWide_slice ht hok
  obtain ⟨fuel, hf⟩ := h
  rcases Go.Deep.open_slice ht hf with ⟨hcs, hx⟩ | ⟨a, len', cap', m, nf, D, Pl, hcs, -, hl, hm, hmm, hx, hcell⟩
  · simp [Value.cells] at hcs
    obtain ⟨rfl, rfl, rfl⟩ := hcs
    exact ⟨[], by simp, .inl ⟨rfl, rfl⟩⟩
  · simp [Value.cells] at hcs
    obtain ⟨rfl, rfl, rfl⟩ := hcs
    simp only [if_true] at hmm
    subst hmm
    rw [hce] at hcell
    have one : ∀ i, i < len → ∃ y : α, Pr y ∧ (i = 0 → a.spot = none) ∧ (a.spot = none → W.rangeAt a.block (a.off + i * n) (ec y)) := by
      intro i hi
      obtain ⟨cs', h1, h2⟩ := hcell i (by omega)
      obtain ⟨-, hlen, hc⟩ := World.cells?_some h1
      obtain ⟨y, hy, hp⟩ := hone _ cs' _ hlen h2
      refine ⟨y, hp, ?_, fun hsp j w hw => ?_⟩
      · intro hi0
        subst hi0
        have h4 := hc 0 hn
        rw [Nat.zero_mul, List.getElem?_eq_getElem (by omega)] at h4
        exact add_zero_spot h4
      · have hj : j < n := by
          have h9 := (List.getElem?_eq_some_iff.1 hw).1
          rw [← hy, hlen] at h9
          exact h9
        have h4 := hc j hj
        rw [hy, hw, add_two a hsp] at h4
        exact h4
    obtain ⟨g, hg⟩ := Go.Deep.choose_lt (α := α) one
    refine ⟨(List.range len).map g, fun x hx => ?_, ?_⟩
    · obtain ⟨i, hi, rfl⟩ := List.mem_map.1 hx
      exact (hg i (by simpa using hi)).1
    · have hs0 : (List.range len).map g ≠ [] → a.spot = none := fun hne => by
        have h0 : 0 < len := by
          cases len with
          | zero => simp at hne
          | succ k => omega
        exact (hg 0 h0).2.1 rfl
      refine .inr ⟨a, _, by simp, by simpa using hl, hm, hs0, fun i x hi => ?_⟩
      have hlt : i < len := by
        have := (List.getElem?_eq_some_iff.1 hi).1
        simpa using this
      have : x = g i := by
        simp [hlt] at hi
        exact hi.symm
      rw [this]
      exact (hg i hlt).2.2 (hs0 (by cases len with | zero => exact absurd hlt (Nat.not_lt_zero _) | succ k => simp))

/-- the cells of an array of bytes that came in -/
theorem bytes_of {W : World} {e u n : Nat} {fuel : Nat} {cs : List Value} {x : DataW H × List MemPlace} (he : P.underlying e = some (.array n u)) (hu : P.underlying u = some (.int .u8)) (hcu : P.cellsOf u = 1) (hcl : cs.length = n)
    (h : DataW.trod enc P W 0 (fun _ => true) true fuel e cs = some x) : ∃ l : List UInt8, cs = keyV l ∧ l.length = n := by
  obtain ⟨xs, mm, -, -, hl2, hl3, hall⟩ := DataW.trod_array he h
  rw [hcu] at hall
  have each : ∀ j, j < n → ∃ y : UInt8, cs[j]? = some (.int .u8 (y.toNat : Int)) := by
    intro j hj
    have h3 := hall j hj
    rw [List.getElem?_eq_getElem (by rw [hl3]; exact hj)] at h3
    obtain ⟨y, hy1, -, hy2⟩ := DataW.trod_int hu h3
    have hy3 : 0 ≤ y ∧ y ≤ 255 := by simpa [Lit.wf, show IntKind.u8.min = 0 from rfl, show IntKind.u8.max = 255 from rfl] using hy2
    refine ⟨UInt8.ofNat y.toNat, ?_⟩
    have h4 : ((cs.drop (j * 1)).take 1)[0]? = some (.int .u8 y) := by rw [hy1]; rfl
    have h5 : cs[j]? = some (.int .u8 y) := by simpa using h4
    rw [h5, UInt8.toNat_ofNat']
    congr 2
    omega
  obtain ⟨f, hf2⟩ := Go.Deep.choose_lt (α := UInt8) each
  refine ⟨(List.range n).map f, List.ext_getElem? fun j => ?_, by simp⟩
  by_cases hj : j < n
  · rw [hf2 j hj]
    unfold keyV
    rw [List.map_map, List.getElem?_map, List.getElem?_range hj]; rfl
  · rw [List.getElem?_eq_none (by omega), List.getElem?_eq_none (by unfold keyV; simp; omega)]
end
instance : Inhabited Ent := ⟨⟨[], 0, 0, 0⟩⟩
theorem wfI {n : Int} (h : (Lit.int .i64 n).wf = true) : -9223372036854775808 ≤ n ∧ n ≤ 9223372036854775807 := by
  simpa [Lit.wf, show IntKind.i64.min = -9223372036854775808 from rfl, show IntKind.i64.max = 9223372036854775807 from rfl] using h
set_option maxRecDepth 100000 in
theorem ent_of {H : Type} {enc : TypeId × Value → H} {W : World} {fuel : Nat} {cs : List Value} {x : DataW H × List MemPlace} (hcs : cs.length = 35) (h : DataW.trod enc Try.prog W 0 (fun _ => true) true fuel 48 cs = some x) : ∃ e : Ent, cs = encE e ∧ intOkE e := by
  have hC1 : Try.prog.cellsOf 3 = 1 := by kernel_rfl
  have hC2 : Try.prog.cellsOf 46 = 32 := by kernel_rfl
  obtain ⟨xs, n, -, -, -, hlen, hff⟩ := DataW.trod_struct Try.underlying48 h
  match xs, hlen with
  | [y0, y1, y2, y3], _ =>
  have g0 : DataW.trod enc Try.prog W 0 (fun _ => true) true n 46 (List.take (Try.prog.cellsOf 46) (List.drop 0 cs)) = some y0 := hff 0 _ rfl
  have g1 : DataW.trod enc Try.prog W 0 (fun _ => true) true n 3 (List.take (Try.prog.cellsOf 3) (List.drop 32 cs)) = some y1 := hff 1 _ rfl
  have g2 : DataW.trod enc Try.prog W 0 (fun _ => true) true n 3 (List.take (Try.prog.cellsOf 3) (List.drop 33 cs)) = some y2 := hff 2 _ rfl
  have g3 : DataW.trod enc Try.prog W 0 (fun _ => true) true n 3 (List.take (Try.prog.cellsOf 3) (List.drop 34 cs)) = some y3 := hff 3 _ rfl
  rw [hC2] at g0
  rw [hC1] at g1 g2 g3
  obtain ⟨k, hk, hkl⟩ := bytes_of Try.underlying46 Try.underlying5 (by kernel_rfl) (by simp; omega) g0
  obtain ⟨n1, e1, -, w1⟩ := DataW.trod_int Try.underlying3 g1
  obtain ⟨n2, e2, -, w2⟩ := DataW.trod_int Try.underlying3 g2
  obtain ⟨n3, e3, -, w3⟩ := DataW.trod_int Try.underlying3 g3
  refine ⟨⟨k, n1, n2, n3⟩, ?_, hkl, (wfI w1).1, (wfI w1).2, (wfI w2).1, (wfI w2).2⟩
  have d3 : cs.drop 34 = [.int .i64 n3] := by
    rw [← e3, List.take_of_length_le (by simp; omega)]
  have d2 : cs.drop 33 = [.int .i64 n2, .int .i64 n3] := by
    have h9 := List.take_append_drop 1 (cs.drop 33)
    rw [e2, List.drop_drop, d3] at h9
    exact h9.symm
  have d1 : cs.drop 32 = [.int .i64 n1, .int .i64 n2, .int .i64 n3] := by
    have h9 := List.take_append_drop 1 (cs.drop 32)
    rw [e1, List.drop_drop, d2] at h9
    exact h9.symm
  have h9 := List.take_append_drop 32 cs
  rw [List.drop_zero] at hk
  rw [hk, d1] at h9
  exact h9.symm
set_option maxRecDepth 100000 in
theorem open_ents {H : Type} {enc : TypeId × Value → H} {W : World} {base : Nat} {v : Value} {d : DataW H} {p : List MemPlace} (hok : Value.okWide Try.prog W .any base 22 v) (h : DataW.Trod enc Try.prog W 0 (fun _ => true) true 22 v d p) :
    ∃ l : List Ent, (∀ e ∈ l, intOkE e) ∧ Sl W 35 encE v l :=
  open_rows Try.underlying22 (by kernel_rfl) (by decide) (fun _ _ _ hl hx => ent_of hl hx) hok h
set_option maxRecDepth 100000 in
theorem open_ent {H : Type} {enc : TypeId × Value → H} {W : World} {r : Reach} {b0 : Nat} {v : Value} {d : DataW H} {p : List MemPlace} (hv : Value.okWide Try.prog W r b0 48 v) (h : DataW.Trod enc Try.prog W 0 (fun _ => true) true 48 v d p) :
    ∃ e : Ent, v = .agg (rowE e) ∧ intOkE e := by
  have hC : Try.prog.cellsOf 48 = 35 := by kernel_rfl
  obtain ⟨cs, rfl, hsz⟩ := okWide_struct Try.underlying48 hv
  obtain ⟨fuel, hf⟩ := h
  obtain ⟨e, he, ho⟩ := ent_of (by rw [← hC, ← hsz]; simp [Value.cells]) hf
  refine ⟨e, ?_, ho⟩
  unfold rowE
  rw [← he]
  simp [Value.cells]
end Go.Proofs.Ytomgjapjeckokaa
namespace Go.Proofs.Ytomgjapjeckokaa.indexKeeps
open Go.ChangeShapes Go.WideShapes Go.ChangeAt Go.RowKit

theorem own : ownKnob Try.prog.godebug = none := by kernel_rfl
theorem laidOut : laidOutB Try.prog = true := by kernel_rfl
theorem reads : ∀ t ∈ Try.f5.params.toList, Try.prog.readableRec t = true ∧ t < Try.prog.types.size := by
  rw [Try.params5]
  intro t ht
  simp at ht
  rcases ht with rfl | rfl
  all_goals exact ⟨by kernel_rfl, of_decide_eq_true (by kernel_rfl)⟩

set_option maxRecDepth 100000 in
theorem lifted (os : Os) (started : os.Started) (H : Type) (enc : TypeId × Value → H) :
    ReturnsInHanded {} Try.checked os 5 .any (Rows.indexKeepsSpec.pre6 enc Try.prog Try.f5 Rows.indexKeepsRow.domain false) (Rows.indexKeepsSpec.post enc Try.prog Try.f5 false true false false) := by
  refine returnsInHanded_of_change (C := Try.checked) own started (by kernel_rfl) Try.func5
    (ChangeSpec.witness6 (enc := enc) (C := Try.checked) false ⟨#[], #[.slice none 0 0, .agg #[.int .u8 0, .int .u8 0, .int .u8 0, .int .u8 0, .int .u8 0, .int .u8 0, .int .u8 0, .int .u8 0, .int .u8 0, .int .u8 0, .int .u8 0, .int .u8 0, .int .u8 0, .int .u8 0, .int .u8 0, .int .u8 0, .int .u8 0, .int .u8 0, .int .u8 0, .int .u8 0, .int .u8 0, .int .u8 0, .int .u8 0, .int .u8 0, .int .u8 0, .int .u8 0, .int .u8 0, .int .u8 0, .int .u8 0, .int .u8 0, .int .u8 0, .int .u8 0, .int .i64 0, .int .i64 0, .int .i64 0]], []⟩ 8 (by kernel_rfl) (by kernel_rfl) (by kernel_rfl) (by kernel_rfl)) ?_
  intro W base args ds gs before hval0 hW hcnd _
  have hval : ∀ (j : Nat) t v, Try.f5.params[j]? = some t → args[j]? = some v → Value.okWide Try.prog W .any base t v := hval0
  have hW' := hW
  obtain ⟨p, q, hA0, hV, rfl, hfz, hnd⟩ := hW
  have hA : DataW.TrodAll enc Try.prog W 0 (fun _ => true) true Try.f5.params.toList args.toList ds p := hA0
  rw [Try.params5] at hA hval
  obtain ⟨v0, vs0, d0, ds0, p0, q0, hargs, rfl, rfl, h0, r0⟩ := trodAll_cons hA
  obtain ⟨v1, vs1, d1, ds1, p1, q1, rfl, rfl, rfl, h1, r1⟩ := trodAll_cons r0
  obtain ⟨rfl, rfl, rfl⟩ := trodAll_nil r1
  obtain rfl : args = #[v0, v1] := by cases args; simp_all
  obtain ⟨rfl, rfl⟩ := trodVars_none hV
  obtain ⟨l0, b0, s0⟩ := open_ents (hval 0 22 v0 rfl rfl) h0
  obtain ⟨x1, rfl, b1⟩ := open_ent (hval 1 48 v1 rfl rfl) h1
  clear hA0 hval0
  refine (IndexKeeps_any l0 x1 v0 W s0 (fun e he => (b0 e he).1) b1.1).mono fun e W' ⟨he, hB⟩ => ?_
  subst he
  exact ⟨_, rfl, law_post rfl hW' rfl rfl Try.underlying4 laidOut reads hB⟩

theorem holds : Rows.IndexKeepsSaid :=
  OpenClaim.holds_of_wide 5 Try.f5 rfl rfl rfl rfl rfl rfl rfl ⟨rfl, rfl, rfl, rfl, rfl⟩ rfl rfl rfl rfl rfl (by kernel_rfl) Try.func5 (by kernel_rfl)
    (of_decide_eq_true (by kernel_rfl)) (by unfold Func.isWrapper; first | (rw [if_pos (by decide +kernel)]; kernel_rfl) | (rw [if_neg (by decide +kernel)]; exact ⟨rfl, rfl⟩))
    (fun os started H enc _ => lifted os started H enc)
end Go.Proofs.Ytomgjapjeckokaa.indexKeeps
