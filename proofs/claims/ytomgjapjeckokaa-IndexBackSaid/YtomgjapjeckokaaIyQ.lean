/- The walk of codexlaw06's wakes (printed by gen_iyq.py). -/
import Derived.Test.YtomgjapjeckokaaIyO
import Derived.Test.YtomgjapjeckokaaIyP
import Derived.Test.YtomgjapjeckokaaIyL
import Derived.Test.YtomgjapjeckokaaIyD
namespace Go.Proofs.Ytomgjapjeckokaa
open Go.RowKit Go.Shelf Go.Lib

def dg (b : UInt8) : List UInt8 := b :: List.replicate 31 0
def wE1 : Ent := ⟨dg 1, 9, 2, 0⟩
def wE2 : Ent := ⟨dg 2, 30, 1, 0⟩
def wE3 : Ent := ⟨dg 3, 5, 1, 0⟩
def wL : List Ent := [wE1, wE3]
theorem wL_good : goodI wL = true := by decide +kernel
theorem wL_goodL : goodL wL = true := by decide +kernel
theorem wL_ok : ∀ e ∈ wL, intOkE e := by
  intro e he
  rcases List.mem_cons.1 he with rfl | he
  · exact ⟨rfl, by decide, by decide, by decide, by decide⟩
  · obtain rfl := List.mem_singleton.1 he
    exact ⟨rfl, by decide, by decide, by decide, by decide⟩
theorem wL_key : ∀ e ∈ wL, e.key.length = 32 := fun e he => (wL_ok e he).1
theorem wL_pack : packS wL [20, 21] = ([sealB (encB wL), sealB (rootB [20])], 0) := by
  unfold packS
  rw [if_pos wL_good, if_neg (by decide), if_neg (by simp [wL]), if_pos (by decide +kernel)]
  rfl
theorem wL_unp : unpS [sealB (encB wL)] = some wL := by
  unfold unpS
  have h : unpTo [sealB (encB wL)] 1 = some wL := by
    rw [unpTo, unpTo, Option.bind_some, List.getD_cons_zero, decS_back wL_key wL_goodL, Option.bind_some, if_neg (by simp)]
    rfl
  rw [show [sealB (encB wL)].length = 1 from rfl, h, Option.bind_some, if_pos wL_good]
theorem mono_check {l : List Ent} {key : List UInt8} (h : (List.range l.length).all (fun b => (List.range (b + 1)).all fun a => !lessS (keyAt l b) key || lessS (keyAt l a) key) = true) : MonoL l key := by
  intro a b hab hb hl
  simp only [List.all_eq_true, List.mem_range] at h
  have h9 := h b hb a (by omega)
  rw [hl] at h9
  simpa using h9
theorem wL_mono : MonoL wL (dg 2) := mono_check (by decide +kernel)
theorem wL_find : posL wL (dg 2) = 1 ∧ foundL wL (dg 2) = false := by decide +kernel
theorem wL_ins : insS wL wE2 = [wE1, wE2, wE3] := by
  unfold insS
  rw [show wE2.key = dg 2 from rfl, wL_find.1]; rfl
def wM : List Ent := [wE1, wE2, wE3]
theorem wM_key : ∀ e ∈ wM, e.key.length = 32 := by
  intro e he
  rcases List.mem_cons.1 he with rfl | he
  · rfl
  · rcases List.mem_cons.1 he with rfl | he
    · rfl
    · obtain rfl := List.mem_singleton.1 he; rfl
theorem wM_mono : MonoL wM (dg 1) := mono_check (by decide +kernel)
theorem wM_find : posL wM (dg 1) = 0 ∧ foundL wM (dg 1) = true := by decide +kernel

theorem sl_takeG {α : Type} {enc : α → List Value} {w : World} {K b o c L k : Nat} {l : List α} (hs : Sl w K enc (.slice (some ⟨b, o, none⟩) L c) l) (hk : k ≤ l.length) : Sl w K enc (.slice (some ⟨b, o, none⟩) k c) (l.take k) := by
  have hlk : (l.take k).length = k := by simp; omega
  rcases hs with ⟨h, -⟩ | ⟨a, cap, h, h1, h2, h3, h4⟩
  · cases h
  · simp only [Value.slice.injEq, Option.some.injEq] at h
    obtain ⟨rfl, rfl, rfl⟩ := h
    refine .inr ⟨_, c, by rw [hlk], by rw [hlk]; omega, h2, fun _ => rfl, fun i x hx => h4 i x ?_⟩
    rw [List.getElem?_take] at hx
    split at hx
    · exact hx
    · cases hx
theorem wp_world {P : Program} {c : Code} {Q : Exit → Act → World → Prop} {a : Act} {w : World} {C C' : Array Value} {t : TypeId} (hC : C = C') (h : c.wp P Q a (w.alloc (.cells C' t))) : c.wp P Q a (w.alloc (.cells C t)) := hC ▸ h

set_option maxRecDepth 100000 in
set_option maxHeartbeats 4000000 in
theorem wakes_any (w : World) : Calls Try.prog 9 #[] w fun e w' => e = .returned (.bool true) ∧ Below w.heap.size w w' := by
  obtain ⟨n₀, hn₀⟩ : ∃ n, w.heap.size = n := ⟨_, rfl⟩
  go_enter Try.func9, Try.ntmps9
  go_upto_region 2 with (fail)
  refine wp_world (C' := (wL.flatMap encE).toArray) (by kernel_rfl) ?_
  obtain ⟨W1, hW1⟩ : ∃ V, V = w.alloc (.cells (wL.flatMap encE).toArray 48) := ⟨_, rfl⟩
  have g1 := World.alloc_heap_new w (.cells (wL.flatMap encE).toArray 48)
  have B1 : Below n₀ w (w.alloc (.cells (wL.flatMap encE).toArray 48)) := by rw [← hn₀]; exact (Below.refl _ w).alloc (Nat.le_refl _) _
  rw [← hW1] at g1 B1
  rw [← hW1]
  rw [hn₀] at g1
  have s1 : Sl W1 35 encE (.slice (some ⟨n₀, 0, none⟩) 2 2) wL := sl_of_block (l := wL) g1 (by rfl) (fun x hx => by rw [encE_len, wL_key x hx]) (Nat.le_refl _) (by decide)
  have z1 : W1.heap.size = n₀ + 1 := by rw [hW1, World.size_alloc, hn₀]
  clear hW1 g1
  (try rw [hn₀])
  have g2 := World.alloc_heap_new W1 (.cells #[.int .i64 20, .int .i64 21] 3)
  have k2 := Kept.alloc 0 W1 (.cells #[.int .i64 20, .int .i64 21] 3)
  have B2 := B1.alloc (by omega) (.cells #[.int .i64 20, .int .i64 21] 3)
  rw [z1] at g2
  have s2 := k2.sl s1
  have hp2 : Sl (W1.alloc (.cells #[.int .i64 20, .int .i64 21] 3)) 1 encI (.slice (some ⟨n₀ + 1, 0, none⟩) 2 2) [20, 21] := sl_of_block (l := [20, 21]) g2 rfl (fun _ _ => rfl) (Nat.le_refl _) (by decide)
  obtain ⟨W2, hW2⟩ : ∃ V, V = W1.alloc (.cells #[.int .i64 20, .int .i64 21] 3) := ⟨_, rfl⟩
  rw [← hW2] at s2 hp2 B2
  have cP := hid (Pack_any wL [20, 21] _ _ W2 s2 hp2 wL_ok (by decide) (by decide))
  rw [wL_pack] at cP
  clear g2 k2 s1 B1 hp2
  go_wp2_with (fail)
  rw [← hW2]
  clear hW2
  refine cP.out.mono ?_
  rintro r w3 ⟨v3, er3, rfl, b3, o3, he3⟩
  obtain rfl : er3 = 0 := he3
  have s3 := (Kept.of_below b3 0).sl s2
  have B3 := B2.trans (b3.mono (by have := B2.size; omega))
  clear cP b3 s2 B2 z1
  obtain ⟨X, hX⟩ : ∃ x, sealB (encB wL) = x := ⟨_, rfl⟩
  have hXl : X.length = 128 := by rw [← hX]; exact sealB_len (by decide)
  have hYl : (sealB (rootB [20])).length = 128 := sealB_len (by decide)
  have hun := wL_unp
  rw [hX] at o3 hun
  obtain ⟨Y, hY⟩ : ∃ x, sealB (rootB [20]) = x := ⟨_, rfl⟩
  rw [hY] at o3 hYl
  have o3' : w3.ownsRow W2.heap.size 43 128 v3 2 ([X, Y].flatMap keyV) := o3
  obtain ⟨g3, c3, rfl⟩ := ownsRow_succ o3'
  have hc3 : (2 : Nat) ≤ c3 := by obtain ⟨p, c, h, h1, -⟩ := owns_shape o3'; cases h; exact h1
  have sB3 := sl_of_owns (enc := keyV) (l := [X, Y]) (fun x hx => by
    rcases List.mem_cons.1 hx with rfl | hx
    · rw [keyV_len, hXl]
    · obtain rfl := List.mem_singleton.1 hx; rw [keyV_len, hYl]) o3
  have sX : Sl w3 128 keyV (.slice (some ⟨g3, 0, none⟩) 1 c3) [X] := sl_takeG sB3 (k := 1) (by simp)
  have cU := hid (Unpack_any [X] _ w3 sX (fun b hb => by obtain rfl := List.mem_singleton.1 hb; exact hXl) (by simp))
  rw [hun] at cU
  have hc3i : (1 : Int) ≤ (c3 : Int) := by omega
  clear o3 o3' sB3 sX hun hX hY hXl hYl
  go_wp2_with (fail)
  refine cU.out.mono ?_
  rintro r w4 ⟨v4, er4, rfl, b4, o4, he4⟩
  obtain rfl : er4 = 0 := he4
  have s4 := (Kept.of_below b4 0).sl s3
  have B4 := B3.trans (b4.mono (by have := B3.size; omega))
  have m4 := sl_of_owns (enc := encE) (l := wL) (fun x hx => by rw [encE_len, wL_key x hx]) o4
  obtain ⟨p4, c4, rfl, -, -⟩ := owns_shape o4
  clear cU b4 s3 B3 o4
  have cF := hid (Find_any wL (dg 2) (some ⟨n₀, 0, none⟩) 2 w4 s4 (by decide) wL_key rfl wL_mono)
  rw [wL_find.1, wL_find.2] at cF
  go_wp2_with (fail)
  refine cF.out.mono ?_
  rintro r w5 ⟨rfl, b5⟩
  have s5 := (Kept.of_below b5 0).sl s4
  have m5 := (Kept.of_below b5 0).sl m4
  have B5 := B4.trans (b5.mono (by have := B4.size; omega))
  clear cF b5 s4 m4 B4
  have cI := hid (Insert_any wL wE2 (some ⟨n₀, 0, none⟩) 2 w5 s5 (by decide) wL_key rfl wL_mono)
  rw [show wE2.key = dg 2 from rfl, wL_find.2, wL_ins] at cI
  go_wp2_with (fail)
  refine cI.out.mono ?_
  rintro r w6 ⟨v6, er6, rfl, b6, ans6⟩
  rcases ans6 with ⟨h, -⟩ | ⟨-, o6, -, rfl⟩
  · cases h
  have s6 := (Kept.of_below b6 0).sl s5
  have m6 := (Kept.of_below b6 0).sl m5
  have B6 := B5.trans (b6.mono (by have := B5.size; omega))
  have o6' : w6.ownsRow w5.heap.size 48 35 v6 3 (wM.flatMap encE) := o6
  have n6 := sl_of_owns (enc := encE) (l := wM) (fun x hx => by rw [encE_len, wM_key x hx]) o6'
  obtain ⟨g6, c6, rfl⟩ := ownsRow_succ o6'
  clear cI b6 s5 m5 B5 o6 o6'
  have cR := hid (Remove_any wM (dg 1) (some ⟨g6, 0, none⟩) c6 w6 n6 (by decide) wM_key rfl wM_mono)
  rw [wM_find.2] at cR
  go_wp2_with (fail)
  refine cR.out.mono ?_
  rintro r w7 ⟨v7, er7, rfl, b7, ans7⟩
  rcases ans7 with ⟨h, -⟩ | ⟨-, o7, -, rfl⟩
  · cases h
  have s7 := (Kept.of_below b7 0).sl s6
  have m7 := (Kept.of_below b7 0).sl m6
  have n7 := (Kept.of_below b7 0).sl n6
  have B7 := B6.trans (b7.mono (by have := B6.size; omega))
  obtain ⟨g7, c7, rfl⟩ := ownsRow_succ (k := 1) o7
  clear cR b7 s6 m6 n6 B6 o7
  have cQ := hid (Remove_any wL (dg 2) (some ⟨n₀, 0, none⟩) 2 w7 s7 (by decide) wL_key rfl wL_mono)
  rw [wL_find.2] at cQ
  go_wp2_with (fail)
  refine cQ.out.mono ?_
  rintro r w8 ⟨v8, er8, rfl, b8, ans8⟩
  rcases ans8 with ⟨-, rfl, rfl⟩ | ⟨h, -⟩
  rotate_left
  · cases h
  have s8 := (Kept.of_below b8 0).sl s7
  have m8 := (Kept.of_below b8 0).sl m7
  have n8 := (Kept.of_below b8 0).sl n7
  have B8 := B7.trans (b8.mono (by have := B7.size; omega))
  clear cQ b8 s7 m7 n7 B7
  have cE := hid (Entries_any wL wL _ _ w8 m8 s8 wL_key wL_key (by decide) (by decide))
  rw [decide_eq_true (rfl : wL = wL)] at cE
  go_wp2_with (fail)
  refine cE.out.mono ?_
  rintro r w9 ⟨rfl, b9⟩
  have s9 := (Kept.of_below b9 0).sl s8
  have n9 := (Kept.of_below b9 0).sl n8
  have B9 := B8.trans (b9.mono (by have := B8.size; omega))
  have d9 : w9.cell? ⟨g6, 67, none⟩ = some (.int .i64 30) := by
    obtain ⟨b', o', c', he', -, -, hc⟩ := n9.open (by simp [wM])
    obtain ⟨h1, -⟩ := Value.slice.inj he'
    obtain ⟨rfl, rfl, -⟩ := Addr.mk.inj (Option.some.inj h1)
    exact (cell_place (hc 1 wE2 rfl) rfl).1
  clear cE b9 s8 m8 n8 B8 n9
  go_wp2_with (fail)
  refine (Size_any 3 _ (by decide)).mono ?_
  rintro r w10 ⟨rfl, rfl⟩
  rw [show sizeS 3 = 2 from rfl]
  go_wp2_with (fail)
  refine (Size_any 4 _ (by decide)).mono ?_
  rintro r w11 ⟨rfl, rfl⟩
  rw [show sizeS 4 = 3 from rfl]
  go_wp2_with (fail)
  refine (Size_any 0 _ (by decide)).mono ?_
  rintro r w12 ⟨rfl, rfl⟩
  rw [show sizeS 0 = 0 from rfl]
  have cG := hid (iGood_all wL _ w12 s9 wL_ok (by decide))
  rw [wL_good] at cG
  go_wp2_with (fail)
  refine cG.out.mono ?_
  rintro r w13 ⟨rfl, b13⟩
  have B13 := B9.trans (b13.mono (by have := B9.size; omega))
  clear cG s9 d9 b13 B9
  go_wp2_with (fail)
  go_ret
  subst hn₀
  exact ⟨rfl, B13⟩
end Go.Proofs.Ytomgjapjeckokaa
