/- MarkupParts: the plain law and the walk. -/
import Derived.Test.YtgbfekimflnaiaaDoorMkK
import Derived.Test.YtgbfekimflnaiaaDoorApp
namespace Go.Proofs.YtgbfekimflnaiaaDoor
open Go.RowKit Go.Shelf Go.Lib

theorem parts_law (s t : L8) (h : s.length + t.length ≤ 238) :
    ((parseR s).1 ≠ 0 ∨ (parseR t).1 ≠ 0 → (parseR (s ++ 10 :: 10 :: t)).1 ≠ 0 ∧ (parseR (s ++ 10 :: 10 :: t)).2 = []) ∧
    ((parseR s).1 = 0 → (parseR t).1 = 0 → (parseR (s ++ 10 :: 10 :: t)) = (0, (parseR s).2 ++ (parseR t).2)) := by
  have e1 : ¬ 240 < s.length := by omega
  have e2 : ¬ 240 < t.length := by omega
  have e3 : ¬ 240 < (s ++ 10 :: 10 :: t).length := by simp; omega
  unfold parseR
  rw [if_neg e1, if_neg e2, if_neg e3]
  have hp := plain_gap s t
  have hg := parse_gap s t
  by_cases p1 : plainB 10 s
  · by_cases p2 : plainB 10 t
    · rw [if_pos p1, if_pos p2, if_pos (hp.2 ⟨p1, p2⟩), hg]
      cases parseL s <;> cases parseL t <;> simp
    · rw [if_pos p1, if_neg p2, if_neg (fun h => p2 (hp.1 h).2)]
      simp
  · rw [if_neg p1, if_neg (fun h => p1 (hp.1 h).1)]
    simp

theorem parseR_len (s : L8) : (parseR s).2.length ≤ 241 := by
  unfold parseR
  by_cases h1 : 240 < s.length
  · rw [if_pos h1]; simp
  · rw [if_neg h1]
    by_cases h2 : plainB 10 s
    · rw [if_pos h2]
      unfold parseL
      cases e : foldP (cutB 10 s) ([], false) with
      | none => simp
      | some st =>
        have h3 := foldP_len _ _ _ e
        have h4 := cutB_len 10 s
        simp at h3 ⊢
        omega
    · rw [if_neg h2]; simp
theorem encPt_one {W : World} {L : List Pt} (h : ∀ x ∈ L, Sl W 1 encT x.2.1 x.2.2) : ∀ x ∈ L, (encPt x).length = 2 ∧ ∀ u ∈ encPt x, u.oneCell' = true := fun x hx => by
  obtain ⟨p, c, e, -⟩ := (h x hx).shape
  refine ⟨rfl, fun u hu => ?_⟩
  rcases List.mem_cons.1 hu with rfl | hu
  · rfl
  · obtain rfl := List.mem_singleton.1 hu
    rw [e]; rfl

set_option maxRecDepth 100000 in
set_option maxHeartbeats 4000000 in
theorem MarkupParts_any (s t : ByteArray) (w : World) (hT : Tabs w) (hs : s.size ≤ 1048576) (ht : t.size ≤ 1048576) :
    Calls Tryd.prog 5 #[.string s, .string t] w fun e w' => e = .returned (.bool true) ∧ Below w.heap.size w w' := by
  have hwr : wrap64 ((s.size : Int) + t.size) = (s.size : Int) + t.size := by unfold wrap64; omega
  go_enter Tryd.func5, Tryd.ntmps5
  by_cases h238 : (238 : Int) < (s.size : Int) + t.size
  · have cW := hid (wakes_any w hT)
    go_wp2_with (fail)
    refine cW.out.mono ?_
    rintro e w1 ⟨rfl, b1⟩
    go_wp2_with (fail)
    go_ret
    exact ⟨rfl, b1⟩
  · obtain ⟨law1, law2⟩ := parts_law s.data.toList t.data.toList (by rw [size8, size8]; omega)
    have cP1 := hid (Parse_any s w hT (by omega))
    go_wp2_with (fail)
    refine cP1.out.mono ?_
    rintro e w1 ⟨v1, L1, n1, rfl, hp1, o1, s1, b1⟩
    rw [hp1] at law1 law2
    have hl1 : L1.length ≤ 241 := by
      have := parseR_len s.data.toList
      rw [hp1] at this; simpa using this
    obtain ⟨pv1, cv1, rfl, -, -⟩ := owns_shape o1
    have z1 : Sl w1 2 encPt (.slice pv1 L1.length cv1) L1 := sl_of_owns (fun _ _ => rfl) o1
    clear o1 hp1 cP1
    have cP2 := hid (Parse_any t w1 (hT.below b1) (by omega))
    go_wp2_with (fail)
    refine cP2.out.mono ?_
    rintro e w2 ⟨v2, L2, n2, rfl, hp2, o2, s2, b2⟩
    rw [hp2] at law1 law2
    have hl2 : L2.length ≤ 241 := by
      have := parseR_len t.data.toList
      rw [hp2] at this; simpa using this
    obtain ⟨pv2, cv2, rfl, -, -⟩ := owns_shape o2
    have z2 : Sl w2 2 encPt (.slice pv2 L2.length cv2) L2 := sl_of_owns (fun _ _ => rfl) o2
    have B2 := b1.trans (b2.mono b1.size)
    clear o2 hp2 cP2
    have hUs : (s ++ ⟨#[10, 10]⟩ ++ t).size ≤ 240 := by
      rw [ByteArray.size_append, ByteArray.size_append]
      show s.size + 2 + t.size ≤ 240
      omega
    have hUl : (s ++ ⟨#[10, 10]⟩ ++ t).data.toList = s.data.toList ++ 10 :: 10 :: t.data.toList := by simp [ByteArray.data_append]
    have cP3 := hid (Parse_any (s ++ ⟨#[10, 10]⟩ ++ t) w2 (hT.below B2) (by omega))
    rw [← hUl] at law1 law2
    go_wp2_with (fail)
    refine cP3.out.mono ?_
    rintro e w3 ⟨v3, L3, n3, rfl, hp3, o3, s3, b3⟩
    rw [hp3] at law1 law2
    obtain ⟨pv3, cv3, rfl, -, -⟩ := owns_shape o3
    have z3 : Sl w3 2 encPt (.slice pv3 L3.length cv3) L3 := sl_of_owns (fun _ _ => rfl) o3
    have B3 := B2.trans (b3.mono B2.size)
    clear o3 hp3 cP3 hUs hUl
    simp only at law1 law2
    by_cases h1 : n1 = 0 ∧ n2 = 0
    · obtain ⟨rfl, rfl⟩ := h1
      have e3 := law2 rfl rfl
      obtain ⟨rfl, hL⟩ := Prod.mk.inj e3
      clear e3 law1 law2
      have q23 := b3
      have q13 : Below w1.heap.size w1 w3 := b2.trans (b3.mono b2.size)
      obtain ⟨i0, hi, hz0, hz1, hz2⟩ := info_parts Tryd.infoPt
      have own0 := owns_empty w3 w3.heap.size 41 2 (Nat.le_refl _)
      have B4 : Below w3.heap.size w3 (w3.alloc (.cells #[] 41)) := (Below.refl _ w3).alloc (Nat.le_refl _) _
      have z1b := (Kept.of_below (q13.trans (B4.mono q13.size)) 0).sl z1
      have n1b := encPt_one s1
      have n2b := encPt_one s2
      go_wp2_with (at_builtin; go_must (first
        | (refine wpList_append_sl_w (by rfl) _ _ 22 rfl w3.heap.size 41 i0 (.agg #[.int .i64 0, .slice none 0 0]) 2 32 Tryd.underlying22 hi hz0 hz1 hz2 rfl (by decide) _ _ _ rfl hown1 encPt _ L2 rfl z2b n2b (by unfold maxLen; omega) (by omega) (by have := B5.size; omega) ?_; intro v6 w6 hown2 hgrow2 _; obtain ⟨p6, c6, rfl, -, -⟩ := owns_shape hown2; have B6 := B5.grown hgrow2 B5.size (fun _ e => own_base hown1 e); have cPa := hid (fun z => Parts_eq w6 (.slice pv3 L3.length cv3) (.slice p6 (L1.length + L2.length) c6) L3 (L1 ++ L2) ((Kept.of_below B6 0).sl z3) z (fun x hx => (Kept.of_below B6 0).sl (s3 x hx)) (fun x hx => (List.mem_append.1 hx).elim (fun h => (Kept.of_below (q13.trans (B6.mono q13.size)) 0).sl (s1 x h)) (fun h => (Kept.of_below (q23.trans (B6.mono q23.size)) 0).sl (s2 x h))) (by rw [List.map_append]; exact hL)))
        | (refine wpList_append_sl_w (by rfl) _ _ 22 rfl w3.heap.size 41 i0 (.agg #[.int .i64 0, .slice none 0 0]) 2 32 Tryd.underlying22 hi hz0 hz1 hz2 rfl (by decide) _ _ _ rfl own0 encPt _ L1 rfl z1b n1b (by unfold maxLen; omega) (by omega) B4.size ?_; intro v5 w5 hown1 hgrow1 _; rw [Nat.zero_add, List.nil_append] at hown1; obtain ⟨p5, c5, rfl, -, -⟩ := owns_shape hown1; have B5 := B4.grown hgrow1 B4.size (fun _ e => own_base own0 e); have z2b := (Kept.of_below (q23.trans (B5.mono q23.size)) 0).sl z2)))
      refine (cPa.out ?_).mono ?_
      · have hh := sl_of_owns (l := L1 ++ L2) (enc := encPt) (k := 2) (fun _ _ => rfl) (v := .slice p6 (L1.length + L2.length) c6) (by rw [List.length_append, List.flatMap_append]; exact hown2)
        exact hh
      rintro e w7 ⟨rfl, b7⟩
      have B7 := (B3.trans (B6.mono B3.size)).trans (b7.mono (Nat.le_trans B3.size B6.size))
      have cW := hid (wakes_any w7 (hT.below B7))
      go_wp2_with (fail)
      refine cW.out.mono ?_
      rintro e w8 ⟨rfl, b8⟩
      go_wp2_with (fail)
      go_ret
      exact ⟨rfl, B7.trans (b8.mono B7.size)⟩
    · have hor : n1 ≠ 0 ∨ n2 ≠ 0 := by
        by_cases h : n1 = 0
        · exact .inr fun h2 => h1 ⟨h, h2⟩
        · exact .inl h
      obtain ⟨k3, hL⟩ := law1 hor
      have hL3 : ((L3.length : Int) == 0) = true := by
        have : L3 = [] := by simpa using hL
        rw [this]; rfl
      have hn3 : (n3 != 0) = true := by simpa using k3
      have cW := hid (wakes_any w3 (hT.below B3))
      clear law1 law2 hL k3
      by_cases hn1 : n1 = 0
      · have hn2 : (n2 != 0) = true := by
          rcases hor with h | h
          · exact absurd hn1 h
          · simpa using h
        have hn1' : (n1 != 0) = false := by simpa using hn1
        clear hor h1 hn1
        go_wp2_with (fail)
        refine cW.out.mono ?_
        rintro e w4 ⟨rfl, b4⟩
        go_wp2_with (fail)
        go_ret
        exact ⟨rfl, B3.trans (b4.mono B3.size)⟩
      · have hn1' : (n1 != 0) = true := by simpa using hn1
        clear hor h1 hn1
        go_wp2_with (fail)
        refine cW.out.mono ?_
        rintro e w4 ⟨rfl, b4⟩
        go_wp2_with (fail)
        go_ret
        exact ⟨rfl, B3.trans (b4.mono B3.size)⟩
end Go.Proofs.YtgbfekimflnaiaaDoor
