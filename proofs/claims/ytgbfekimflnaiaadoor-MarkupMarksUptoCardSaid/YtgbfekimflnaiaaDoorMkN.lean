/- MarkupMarks: the walk, as far as it goes. -/
import Derived.Test.YtgbfekimflnaiaaDoorMkM
namespace Go.Proofs.YtgbfekimflnaiaaDoor
open Go.RowKit Go.Shelf Go.Lib

/-- the parts that MarkupMarks expects -/
def marksP (x y z : List ByteArray) (v1 v2 v3 v4 v6 : Value) : List Pt := [(1, v1, [⟨#[119]⟩] ++ x ++ [⟨#[119]⟩] ++ y), (2, v2, z), (1, v3, [⟨#[119]⟩] ++ x), (3, v4, y), (4, .slice none 0 0, []), (1, v6, [⟨#[119]⟩] ++ z)]

set_option maxRecDepth 100000 in
set_option maxHeartbeats 4000000 in
theorem MarkupMarks_any (a b c : ByteArray) (w : World) (hT : Tabs w) (ha : a.size ≤ 1048576) (hb : b.size ≤ 1048576) (hc : c.size ≤ 1048576) :
    Calls Tryd.prog 7 #[.string a, .string b, .string c] w fun e w' => e = .returned (.bool true) ∧ Below w.heap.size w w' := by
  have hw1 : wrap64 ((a.size : Int) + b.size) = (a.size : Int) + b.size := by unfold wrap64; omega
  have hw2 : wrap64 ((a.size : Int) + b.size + c.size) = (a.size : Int) + b.size + c.size := by unfold wrap64; omega
  go_enter Tryd.func7, Tryd.ntmps7
  have cW := hid (wakes_any w hT)
  by_cases h150 : (150 : Int) < (a.size : Int) + b.size + c.size
  · go_wp2_with (fail)
    refine cW.out.mono ?_
    rintro e w1 ⟨rfl, b1⟩
    go_wp2_with (fail)
    go_ret
    exact ⟨rfl, b1⟩
  · have c1 := hid (tame_any a w (by omega))
    have c2 := hid (tame_any b w (by omega))
    have c3 := hid (tame_any c w (by omega))
    go_wp2_with (fail)
    refine c1.out.mono ?_
    rintro e w1 ⟨rfl, rfl⟩
    by_cases t1 : tameL a.data.toList
    · simp only [t1, decide_true]
      go_wp2_with (fail)
      refine c2.out.mono ?_
      rintro e w1 ⟨rfl, rfl⟩
      by_cases t2 : tameL b.data.toList
      · simp only [t2, decide_true]
        go_wp2_with (fail)
        refine c3.out.mono ?_
        rintro e w1 ⟨rfl, rfl⟩
        by_cases t3 : tameL c.data.toList
        · simp only [t3, decide_true]
          have d1 := hid (fun W => Words_any a W (by omega))
          have d2 := hid (fun W => Words_any b W (by omega))
          have d3 := hid (fun W => Words_any c W (by omega))
          have e1 := wds8 a
          have e2 := wds8 b
          have e3 := wds8 c
          generalize wdsB a = x at *
          generalize wdsB b = y at *
          generalize wdsB c = z at *
          replace e1 := hid e1
          replace e2 := hid e2
          replace e3 := hid e3
          clear cW
          go_wp2_with (fail)
          refine (d1.out _).mono ?_
          rintro e W1 ⟨v1, rfl, o1, b1⟩
          obtain ⟨p1, q1, rfl, -, -⟩ := owns_shape o1
          go_wp2_with (fail)
          refine (d2.out _).mono ?_
          rintro e W2 ⟨v2, rfl, o2, b2⟩
          obtain ⟨p2, q2, rfl, -, -⟩ := owns_shape o2
          go_wp2_with (fail)
          refine (d3.out _).mono ?_
          rintro e W3 ⟨v3, rfl, o3, b3⟩
          obtain ⟨p3, q3, rfl, -, -⟩ := owns_shape o3
          have B3 := b1.trans ((b2.mono b1.size).trans (b3.mono (Nat.le_trans b1.size b2.size)))
          have cW := hid (wakes_any W3 (hT.below B3))
          by_cases hx : x = [] ∨ y = [] ∨ z = []
          · have hq : ((x.length : Int) == 0) = true ∨ ((x.length : Int) == 0) = false ∧ ((y.length : Int) == 0) = true ∨ ((x.length : Int) == 0) = false ∧ ((y.length : Int) == 0) = false ∧ ((z.length : Int) == 0) = true := by
              cases x <;> cases y <;> cases z <;> simp at hx ⊢ <;> omega
            clear hx
            rcases hq with h1 | ⟨h1, h2⟩ | ⟨h1, h2, h3⟩
            all_goals
              go_wp2_with (fail)
              refine cW.out.mono ?_
              rintro e w1 ⟨rfl, b9⟩
              go_wp2_with (fail)
              go_ret
              exact ⟨rfl, B3.trans (b9.mono B3.size)⟩
          · have hq : ((x.length : Int) == 0) = false ∧ ((y.length : Int) == 0) = false ∧ ((z.length : Int) == 0) = false := by
              cases x <;> cases y <;> cases z <;> simp at hx ⊢ <;> omega
            obtain ⟨k1, k2, k3⟩ := hq
            have hU : (⟨#[119, 32]⟩ ++ a ++ ⟨#[10, 119, 32]⟩ ++ b ++ ⟨#[10, 61, 32]⟩ ++ c ++ ⟨#[10, 119, 32]⟩ ++ a ++ ⟨#[10, 45, 32]⟩ ++ b ++ ⟨#[10, 45, 45, 45, 10, 119, 32]⟩ ++ c : ByteArray).data.toList = marksL a.data.toList b.data.toList c.data.toList := by
              simp [ByteArray.data_append, marksL]
            have hUs : (⟨#[119, 32]⟩ ++ a ++ ⟨#[10, 119, 32]⟩ ++ b ++ ⟨#[10, 61, 32]⟩ ++ c ++ ⟨#[10, 119, 32]⟩ ++ a ++ ⟨#[10, 45, 32]⟩ ++ b ++ ⟨#[10, 45, 45, 45, 10, 119, 32]⟩ ++ c : ByteArray).size = 2 * (a.size + b.size + c.size) + 21 := by
              rw [← size8, hU, marks_len, size8, size8, size8]
            have cP := hid (Parse_any (w := W3) (hT := hT.below B3) (hs := by rw [hUs]; omega) (s := ⟨#[119, 32]⟩ ++ a ++ ⟨#[10, 119, 32]⟩ ++ b ++ ⟨#[10, 61, 32]⟩ ++ c ++ ⟨#[10, 119, 32]⟩ ++ a ++ ⟨#[10, 45, 32]⟩ ++ b ++ ⟨#[10, 45, 45, 45, 10, 119, 32]⟩ ++ c))
            replace hU := hid hU
            replace hUs := hid hUs
            clear cW
            go_wp2_with (fail)
            refine cP.out.mono ?_
            rintro e W4 ⟨v4, L4, n4, rfl, hp4, o4, s4, b4⟩
            have hpr : 2 * (a.size + b.size + c.size) + 21 ≤ 240 → n4 = 0 ∧ L4.map pt8 = [(1, [119] :: wordsL a.data.toList ++ [119] :: wordsL b.data.toList), (2, wordsL c.data.toList), (1, [119] :: wordsL a.data.toList), (3, wordsL b.data.toList), (4, []), (1, [119] :: wordsL c.data.toList)] := by
              intro hle
              have h2 : wordsL b.data.toList ≠ [] := by
                rw [← e2.out]; intro h; exact hx (.inr (.inl (List.map_eq_nil_iff.1 h)))
              have h3 : wordsL c.data.toList ≠ [] := by
                rw [← e3.out]; intro h; exact hx (.inr (.inr (List.map_eq_nil_iff.1 h)))
              have h := hp4
              rw [hU.out] at h
              unfold parseR at h
              rw [if_neg (by rw [marks_len, size8, size8, size8]; omega), if_pos (marks_plain t1 t2 t3), marks_parse t1 t2 t3 h2 h3] at h
              exact ⟨(Prod.mk.inj h).1.symm, (Prod.mk.inj h).2.symm⟩
            replace hpr := hid hpr
            clear hp4
            obtain ⟨p4, q4, rfl, -, -⟩ := owns_shape o4
            have B4 := B3.trans (b4.mono B3.size)
            have z4 : Sl W4 2 encPt (.slice p4 L4.length q4) L4 := sl_of_owns (fun _ _ => rfl) o4
            have lx : x.length ≤ 151 := by
              have h1 := wordsL_len a.data.toList
              rw [← e1.out, List.length_map, size8] at h1; omega
            have ly : y.length ≤ 151 := by
              have h1 := wordsL_len b.data.toList
              rw [← e2.out, List.length_map, size8] at h1; omega
            have lz : z.length ≤ 151 := by
              have h1 := wordsL_len c.data.toList
              rw [← e3.out, List.length_map, size8] at h1; omega
            have x4 : Sl W4 1 encT (.slice p1 x.length q1) x := (Kept.of_below (b2.trans ((b3.mono b2.size).trans (b4.mono (Nat.le_trans b2.size b3.size)))) 0).sl (sl_of_owns (fun _ _ => rfl) o1)
            have y4 : Sl W4 1 encT (.slice p2 y.length q2) y := (Kept.of_below (b3.trans (b4.mono b3.size)) 0).sl (sl_of_owns (fun _ _ => rfl) o2)
            have zz4 : Sl W4 1 encT (.slice p3 z.length q3) z := (Kept.of_below b4 0).sl (sl_of_owns (fun _ _ => rfl) o3)
            clear o4 cP o1 o2 o3
            obtain ⟨N4, hN4⟩ : ∃ n, W4.heap.size = n := ⟨_, rfl⟩
            obtain ⟨V4, hV4⟩ : ∃ V, W4.alloc (.cells #[.string ⟨#[119]⟩] 9) = V := ⟨_, rfl⟩
            have hw4 : V4.heap[N4]? = some (.cells #[.string ⟨#[119]⟩] 9 (0, 0)) := by rw [← hV4, ← hN4]; exact World.alloc_heap_new W4 _
            have sz4 : V4.heap.size = N4 + 1 := by rw [← hV4, ← hN4]; simp
            have BV4 : Below W4.heap.size W4 V4 := by rw [← hV4]; exact (Below.refl _ W4).alloc (Nat.le_refl _) _
            obtain ⟨V5, hV5⟩ : ∃ V, V4.alloc (.cells #[.string ⟨#[119]⟩] 9) = V := ⟨_, rfl⟩
            have own5 : V5.ownsRow (N4 + 1) 9 1 (.slice (some ⟨N4 + 1, 0, none⟩) 1 1) 1 [.string ⟨#[119]⟩] := by
              rw [← hV5, ← sz4]
              exact ⟨rfl, .inr ⟨V4.heap.size, 1, #[.string ⟨#[119]⟩], rfl, Nat.le_refl _, World.alloc_heap_new V4 _, Nat.le_refl _, by decide, by simp, by simp⟩⟩
            have BV5 : Below V4.heap.size V4 V5 := by rw [← hV5]; exact (Below.refl _ V4).alloc (Nat.le_refl _) _
            have x5 := (Kept.of_below (BV4.trans (BV5.mono BV4.size)) 0).sl x4
            obtain ⟨i0, hi, hz0, hz1, hz2⟩ := info_parts Tryd.infoS
            have n1e : ∀ l : List ByteArray, ∀ x ∈ l, (encT x).length = 1 ∧ ∀ u ∈ encT x, u.oneCell' = true := fun l x _ => ⟨rfl, fun u hu => by obtain rfl := List.mem_singleton.1 hu; rfl⟩
            have sz5 : V5.heap.size = N4 + 2 := by rw [← hV5]; simp [sz4]
            go_wp2_with (at_builtin; go_must (first
              | (refine wpList_append_sl rfl _ _ 37 rfl V12.heap.size 9 i0 (.string ⟨#[]⟩) 1 16 Tryd.underlying37 hi hz0 hz1 hz2 rfl (by decide) _ _ _ rfl own14 encT _ z rfl z14 (n1e z) (by unfold maxLen; (try simp only [List.length_cons, List.length_nil]); omega) (by (try simp only [List.length_cons, List.length_nil]); omega) (BV14.size) ?_
                 intro v15 V15 own15 grow15 _
                 obtain ⟨p15, q15, rfl, -, -⟩ := owns_shape own15
                 have BV15 := BV14.grown grow15 BV14.size (fun _ e => own_base own14 e)
                 obtain ⟨V16, hV16⟩ : ∃ V, V15.alloc (.cells #[.int .i64 1, .slice p9 (1 + x.length + 1 + y.length) q9, .int .i64 2, .slice p3 z.length q3, .int .i64 1, .slice p12 (1 + x.length) q12, .int .i64 3, .slice p2 y.length q2, .int .i64 4, .slice none 0 0, .int .i64 1, .slice p15 (1 + z.length) q15] 41) = V := ⟨_, rfl⟩
                 have BV16 : Below V15.heap.size V15 V16 := by rw [← hV16]; exact (Below.refl _ V15).alloc (Nat.le_refl _) _
                 have hw16 := World.alloc_heap_new V15 (.cells #[.int .i64 1, .slice p9 (1 + x.length + 1 + y.length) q9, .int .i64 2, .slice p3 z.length q3, .int .i64 1, .slice p12 (1 + x.length) q12, .int .i64 3, .slice p2 y.length q2, .int .i64 4, .slice none 0 0, .int .i64 1, .slice p15 (1 + z.length) q15] 41)
                 rw [hV16] at hw16
                 have BB : Below W4.heap.size W4 V16 := ((BV4.trans (BV9.mono BV4.size)).trans (BV12.mono (Nat.le_trans BV4.size BV9.size))).trans ((BV15.trans (BV16.mono BV15.size)).mono (Nat.le_trans (Nat.le_trans BV4.size BV9.size) BV12.size))
                 have B16 := B4.trans (BB.mono B4.size)
                 have K12 : Below V12.heap.size V12 V16 := BV15.trans (BV16.mono BV15.size)
                 have r9 : Sl V16 1 encT (.slice p9 (1 + x.length + 1 + y.length) q9) ([⟨#[119]⟩] ++ x ++ [⟨#[119]⟩] ++ y) := (Kept.of_below (BV12.trans (K12.mono BV12.size)) 0).sl (sl_of_owns (enc := encT) (k := 1) (l := [⟨#[119]⟩] ++ x ++ [⟨#[119]⟩] ++ y) (fun _ _ => rfl) (v := .slice p9 (1 + x.length + 1 + y.length) q9) (by rw [List.length_append, List.length_append, List.length_append, List.flatMap_append, List.flatMap_append, List.flatMap_append]; exact own9))
                 have r12 : Sl V16 1 encT (.slice p12 (1 + x.length) q12) ([⟨#[119]⟩] ++ x) := (Kept.of_below K12 0).sl (sl_of_owns (enc := encT) (k := 1) (l := [⟨#[119]⟩] ++ x) (fun _ _ => rfl) (v := .slice p12 (1 + x.length) q12) (by rw [List.length_append, List.flatMap_append]; exact own12))
                 have r15 : Sl V16 1 encT (.slice p15 (1 + z.length) q15) ([⟨#[119]⟩] ++ z) := (Kept.of_below BV16 0).sl (sl_of_owns (enc := encT) (k := 1) (l := [⟨#[119]⟩] ++ z) (fun _ _ => rfl) (v := .slice p15 (1 + z.length) q15) (by rw [List.length_append, List.flatMap_append]; exact own15)))
              | (refine wpList_append_sl rfl _ _ 37 rfl V12.heap.size 9 i0 (.string ⟨#[]⟩) 1 16 Tryd.underlying37 hi hz0 hz1 hz2 rfl (by decide) _ _ _ rfl own13 encT _ [⟨#[119]⟩] rfl w13 (n1e [⟨#[119]⟩]) (by unfold maxLen; (try simp only [List.length_cons, List.length_nil]); omega) (by (try simp only [List.length_cons, List.length_nil]); omega) (BV13.size) ?_
                 intro v14 V14 own14 grow14 _
                 rw [show 0 + [(⟨#[119]⟩ : ByteArray)].length = 1 from rfl, List.nil_append] at own14
                 obtain ⟨p14, q14, rfl, -, -⟩ := owns_shape own14
                 have BV14 := BV13.grown grow14 BV13.size (fun _ e => own_base own13 e)
                 have z14 := (Kept.of_below (((BV4.trans (BV9.mono BV4.size)).trans (BV12.mono (Nat.le_trans BV4.size BV9.size))).trans (BV14.mono (Nat.le_trans (Nat.le_trans BV4.size BV9.size) BV12.size))) 0).sl zz4)
              | (refine wpList_append_sl rfl _ _ 37 rfl V9.heap.size 9 i0 (.string ⟨#[]⟩) 1 16 Tryd.underlying37 hi hz0 hz1 hz2 rfl (by decide) _ _ _ rfl own11 encT _ x rfl x11 (n1e x) (by unfold maxLen; (try simp only [List.length_cons, List.length_nil]); omega) (by (try simp only [List.length_cons, List.length_nil]); omega) (BV11.size) ?_
                 intro v12 V12 own12 grow12 _
                 obtain ⟨p12, q12, rfl, -, -⟩ := owns_shape own12
                 have BV12 := BV11.grown grow12 BV11.size (fun _ e => own_base own11 e)
                 obtain ⟨V13, hV13⟩ : ∃ V, V12.alloc (.cells #[] 9) = V := ⟨_, rfl⟩
                 have BV13 : Below V12.heap.size V12 V13 := by rw [← hV13]; exact (Below.refl _ V12).alloc (Nat.le_refl _) _
                 have own13 := owns_empty V12 V12.heap.size 9 1 (Nat.le_refl _)
                 rw [hV13] at own13
                 have w13 : Sl V13 1 encT (.slice (some ⟨N4, 0, none⟩) 1 1) [⟨#[119]⟩] := (Kept.of_below (BV9.trans ((BV12.trans (BV13.mono BV12.size)).mono BV9.size)) 0).sl (sl_of_block (l := [(⟨#[119]⟩ : ByteArray)]) hw4 rfl (fun _ _ => rfl) (Nat.le_refl 1) (by decide)))
              | (refine wpList_append_sl rfl _ _ 37 rfl V9.heap.size 9 i0 (.string ⟨#[]⟩) 1 16 Tryd.underlying37 hi hz0 hz1 hz2 rfl (by decide) _ _ _ rfl own10 encT _ [⟨#[119]⟩] rfl w10 (n1e [⟨#[119]⟩]) (by unfold maxLen; (try simp only [List.length_cons, List.length_nil]); omega) (by (try simp only [List.length_cons, List.length_nil]); omega) (BV10.size) ?_
                 intro v11 V11 own11 grow11 _
                 rw [show 0 + [(⟨#[119]⟩ : ByteArray)].length = 1 from rfl, List.nil_append] at own11
                 obtain ⟨p11, q11, rfl, -, -⟩ := owns_shape own11
                 have BV11 := BV10.grown grow11 BV10.size (fun _ e => own_base own10 e)
                 have x11 := (Kept.of_below ((BV4.trans (BV9.mono BV4.size)).trans (BV11.mono (Nat.le_trans BV4.size BV9.size))) 0).sl x4)
              | (refine wpList_append_sl rfl _ _ 37 rfl (N4 + 1) 9 i0 (.string ⟨#[]⟩) 1 16 Tryd.underlying37 hi hz0 hz1 hz2 rfl (by decide) _ _ _ rfl own8 encT _ y rfl y8 (n1e y) (by unfold maxLen; (try simp only [List.length_cons, List.length_nil]); omega) (by (try simp only [List.length_cons, List.length_nil]); omega) (sz8) ?_
                 intro v9 V9 own9 grow9 _
                 obtain ⟨p9, q9, rfl, -, -⟩ := owns_shape own9
                 have BV9 := BV8.grown grow9 BV8.size (fun _ e => by rw [sz4]; exact own_base own8 e)
                 obtain ⟨V10, hV10⟩ : ∃ V, V9.alloc (.cells #[] 9) = V := ⟨_, rfl⟩
                 have BV10 : Below V9.heap.size V9 V10 := by rw [← hV10]; exact (Below.refl _ V9).alloc (Nat.le_refl _) _
                 have own10 := owns_empty V9 V9.heap.size 9 1 (Nat.le_refl _)
                 rw [hV10] at own10
                 have w10 : Sl V10 1 encT (.slice (some ⟨N4, 0, none⟩) 1 1) [⟨#[119]⟩] := (Kept.of_below (BV9.trans (BV10.mono BV9.size)) 0).sl (sl_of_block (l := [(⟨#[119]⟩ : ByteArray)]) hw4 rfl (fun _ _ => rfl) (Nat.le_refl 1) (by decide)))
              | (refine wpList_append_sl rfl _ _ 37 rfl (N4 + 1) 9 i0 (.string ⟨#[]⟩) 1 16 Tryd.underlying37 hi hz0 hz1 hz2 rfl (by decide) _ _ _ rfl own7 encT _ [⟨#[119]⟩] rfl w7 (n1e [⟨#[119]⟩]) (by unfold maxLen; (try simp only [List.length_cons, List.length_nil]); omega) (by (try simp only [List.length_cons, List.length_nil]); omega) (sz7) ?_
                 intro v8 V8 own8 grow8 _
                 rw [show [(⟨#[119]⟩ : ByteArray)].length = 1 from rfl] at own8
                 obtain ⟨p8, q8, rfl, -, -⟩ := owns_shape own8
                 have BV8 := BV7.grown grow8 BV7.size (fun _ e => by rw [sz4]; exact own_base own7 e)
                 have y8 := (Kept.of_below (BV4.trans (BV8.mono BV4.size)) 0).sl y4
                 have sz8 : N4 + 1 ≤ V8.heap.size := by have := BV8.size; rw [sz4] at this; exact this)
              | (refine wpList_append_sl rfl _ _ 37 rfl (N4 + 1) 9 i0 (.string ⟨#[]⟩) 1 16 Tryd.underlying37 hi hz0 hz1 hz2 rfl (by decide) _ _ _ rfl own5 encT _ x rfl x5 (n1e x) (by unfold maxLen; (try simp only [List.length_cons, List.length_nil]); omega) (by (try simp only [List.length_cons, List.length_nil]); omega) (by rw [sz5]; omega) ?_
                 intro v6 V6 own6 grow6 _
                 obtain ⟨p6, q6, rfl, -, -⟩ := owns_shape own6
                 have BV6 := BV5.grown grow6 BV5.size (fun _ e => by rw [sz4]; exact own_base own5 e)
                 obtain ⟨V7, hV7⟩ : ∃ V, V6.alloc (.cells #[.string ⟨#[119]⟩] 9) = V := ⟨_, rfl⟩
                 have BV7 : Below V4.heap.size V4 V7 := by rw [← hV7]; exact BV6.alloc BV6.size _
                 have own7 := own6.alloc (.cells #[.string ⟨#[119]⟩] 9)
                 rw [hV7] at own7
                 have w7 : Sl V7 1 encT (.slice (some ⟨V6.heap.size, 0, none⟩) 1 1) [⟨#[119]⟩] := by rw [← hV7]; exact sl_of_block (l := [(⟨#[119]⟩ : ByteArray)]) (World.alloc_heap_new V6 _) rfl (fun _ _ => rfl) (Nat.le_refl 1) (by decide)
                 have sz7 : N4 + 1 ≤ V7.heap.size := by have := BV7.size; rw [sz4] at this; exact this)))
            · have cW := hid (wakes_any V16 (hT.below B16))
              go_wp2_with (fail)
              refine cW.out.mono ?_
              rintro e w9 ⟨rfl, b9⟩
              go_wp2_with (fail)
              go_ret
              exact ⟨rfl, B16.trans (b9.mono B16.size)⟩
            · obtain ⟨-, hL⟩ := hpr.out (by omega)
              refine (Parts_eq V16 _ _ L4 (marksP x y z (.slice p9 (1 + x.length + 1 + y.length) q9) (.slice p3 z.length q3) (.slice p12 (1 + x.length) q12) (.slice p2 y.length q2) (.slice p15 (1 + z.length) q15)) ((Kept.of_below BB 0).sl z4) (sl_of_block (l := (marksP x y z (.slice p9 (1 + x.length + 1 + y.length) q9) (.slice p3 z.length q3) (.slice p12 (1 + x.length) q12) (.slice p2 y.length q2) (.slice p15 (1 + z.length) q15))) hw16 rfl (fun _ _ => rfl) (Nat.le_refl 6) (by decide)) (fun u hu => (Kept.of_below BB 0).sl (s4 u hu)) ?_ ?_).mono ?_
              · intro u hu
                simp only [marksP, List.mem_cons, List.not_mem_nil, or_false] at hu
                rcases hu with rfl | rfl | rfl | rfl | rfl | rfl
                · exact r9
                · exact (Kept.of_below BB 0).sl zz4
                · exact r12
                · exact (Kept.of_below BB 0).sl y4
                · exact .inl ⟨rfl, rfl⟩
                · exact r15
              · rw [hL, ← e1.out, ← e2.out, ← e3.out]; simp [marksP, pt8, Go.Proofs.YtgbfekimflnaiaaDoor.p8]
              · rintro e w9 ⟨rfl, b9⟩
                have B17 := B16.trans (b9.mono B16.size)
                have cW := hid (wakes_any w9 (hT.below B17))
                go_wp2_with (fail)
                refine cW.out.mono ?_
                rintro e w10 ⟨rfl, b10⟩
                go_wp2_with (fail)
                go_ret
                exact ⟨rfl, B17.trans (b10.mono B17.size)⟩
            · obtain ⟨h0, -⟩ := hpr.out (by omega)
              contradiction
        · simp only [t3, decide_false]
          go_wp2_with (fail)
          refine cW.out.mono ?_
          rintro e w1 ⟨rfl, b1⟩
          go_wp2_with (fail)
          go_ret
          exact ⟨rfl, b1⟩
      · simp only [t2, decide_false]
        go_wp2_with (fail)
        refine cW.out.mono ?_
        rintro e w1 ⟨rfl, b1⟩
        go_wp2_with (fail)
        go_ret
        exact ⟨rfl, b1⟩
    · simp only [t1, decide_false]
      go_wp2_with (fail)
      refine cW.out.mono ?_
      rintro e w1 ⟨rfl, b1⟩
      go_wp2_with (fail)
      go_ret
      exact ⟨rfl, b1⟩
end Go.Proofs.YtgbfekimflnaiaaDoor
