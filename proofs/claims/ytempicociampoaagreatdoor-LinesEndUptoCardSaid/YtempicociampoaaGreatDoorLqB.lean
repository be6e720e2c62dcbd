/- The walk of the document's items of a word (printed by gen_lqb.py). -/
import Derived.Test.YtempicociampoaaGreatDoorJ0
import Derived.Test.YtempicociampoaaGreatDoorJ23
namespace Go.Proofs.YtempicociampoaaGreatDoor
open Go.RowKit Go.Shelf Go.Lib

set_option maxRecDepth 100000 in
set_option maxHeartbeats 8000000 in
theorem RWord_any (s : ByteArray) (a b c d e : Int) (w : World) (hs : s.size ≤ 2000000) :
  Calls Tryz.prog 40 #[.string s, .agg #[.int .i64 a, .int .i64 b, .int .i64 c, .int .i64 d, .int .i64 e]] w fun r w' => ∃ v, r = .returned v ∧ w'.ownsRow w.heap.size 49 6 v (wordI d s).length ((wordI d s).flatMap encIt) ∧ Below w.heap.size w w' := by
 obtain ⟨i0, hi, hz0, hz1, hz2⟩ := info_parts Tryz.infoIt
 have gS := World.alloc_heap_new w (.cells #[.int .i64 a, .int .i64 b, .int .i64 c, .int .i64 d, .int .i64 e] 26)
 have B1 := (Below.refl w.heap.size w).alloc (Nat.le_refl _) (.cells #[.int .i64 a, .int .i64 b, .int .i64 c, .int .i64 d, .int .i64 e] 26)
 obtain ⟨n₀, hn₀⟩ : ∃ n, w.heap.size = n := ⟨_, rfl⟩
 obtain ⟨W1, hW1⟩ : ∃ W : World, W = w.alloc (.cells #[.int .i64 a, .int .i64 b, .int .i64 c, .int .i64 d, .int .i64 e] 26) := ⟨_, rfl⟩
 rw [← hW1, hn₀] at gS B1
 rw [hn₀]
 have cP := hid (RPoints_any s W1 hs)
 have cG := hid (fun W => RSigns_any s W (by omega))
 have hpt := fun k => @point_at s k
 have hpx := fun h => @part_text s h
 have hss := @sgn_size s
 have hwo := word_out d s
 have hwn := @word_none d s
 have hlp := last_piece s
 have hnp : (pointsL (numbersL s.data.toList)).length ≤ 59 := (points_ok s.data.toList).2.2
 obtain ⟨PT, hPT⟩ : ∃ y, pointsL (numbersL s.data.toList) = y := ⟨_, rfl⟩
 rw [hPT] at cP hpt hpx hss hwo hwn hlp hnp
 obtain ⟨np, hnpe⟩ : ∃ y, PT.length = y := ⟨_, rfl⟩
 rw [hnpe] at hpt hpx hss hwo hwn hlp hnp
 obtain ⟨SG, hSG⟩ : ∃ y, sgn s.data.toList = y := ⟨_, rfl⟩
 have hsr := sgn_rng s.data.toList
 have hsl := sgn_len s
 rw [hSG] at cG hpx hss hsr hsl
 obtain ⟨vb, hvb⟩ : ∃ y, validD s.data.toList = y := ⟨_, rfl⟩
 rw [hvb] at cG
 clear hPT hSG hvb
 replace hwo := hid hwo
 replace hwn := hid hwn
 replace hlp := hid hlp
 replace hpt := hid hpt
 replace hpx := hid hpx
 replace hss := hid hss
 replace hnpe := hid hnpe
 have hfl : ∀ (w : World) (v : Value), (Instr.field 111 (.agg #[v, .bool vb]) 0).run Tryz.prog w = .ok v w := fun _ _ => by kernel_rfl
 go_enter Tryz.func40, Tryz.ntmps40
 go_upto_region 1 with (fail)
 rw [← hW1]
 clear hW1
 try simp only [hn₀]
 go_wp2_with (fail)
 refine cP.out.mono ?_
 rintro r w2 ⟨v5, rfl, s5, b2⟩
 obtain ⟨q5, c5, rfl, -⟩ := s5.shape
 rw [hnpe.out] at s5 ⊢
 go_upto_region 2 with (fail)
 go_wp2_with (fail)
 refine (cG.out w2).mono ?_
 rintro r w3 ⟨v6, rfl, s6, b3⟩
 obtain ⟨q6, c6, rfl, -⟩ := s6.shape
 obtain ⟨M₀, hM₀⟩ : ∃ n, w3.heap.size = n := ⟨_, rfl⟩
 have B3 := (B1.trans (b2.mono (by have := (Array.getElem?_eq_some_iff.1 gS).1; omega))).trans (b3.mono (by have := (Array.getElem?_eq_some_iff.1 gS).1; have := b2.size; omega))
 have gS3 := (Kept.of_below b3 0).same _ _ ((Kept.of_below b2 0).same _ _ gS (.inl rfl)) (.inl rfl)
 have s53 := (Kept.of_below b3 0).sl s5
 have hnM : n₀ < M₀ := by rw [← hM₀]; exact (Array.getElem?_eq_some_iff.1 gS3).1
 have kP := hid (fun V (h : Below M₀ w3 V) => (Kept.of_below (hM₀ ▸ h : Below w3.heap.size w3 V) 0).sl s53)
 have kG := hid (fun V (h : Below M₀ w3 V) => (Kept.of_below (hM₀ ▸ h : Below w3.heap.size w3 V) 0).sl s6)
 have kC := hid (fun V (h : Below M₀ w3 V) => cell_blk (i := 3) ((Kept.of_below (hM₀ ▸ h : Below w3.heap.size w3 V) 0).same _ _ gS3 (.inl rfl)) rfl)
 have cO := hid (fun (T : ByteArray) (hT : T.size ≤ 2000000) V => ROf1_any T V hT)
 have cS := hid (fun V => (show Calls Tryz.prog 65 #[.int .i64 45] V fun e w' => e = .returned (.int .i64 4) ∧ w' = V from RSign_any 45 V (by decide) (by decide)))
 have cTx := hid (fun (V : World) (v : Value) (l' : List Int) (hl' : l'.length ≤ 2000000) (hv : Sl V 1 encI v l') (hr' : ∀ x ∈ l', -9223372036854775808 ≤ x ∧ x ≤ 9223372036854775807) => RText_any v l' V hl' hv hr')
 have hzM : M₀ ≤ w3.heap.size := by omega
 clear b2 b3 s5 s6 s53 gS gS3 cP cG B1
 go_wp2_with (fail)
 go_loopw [7, 8, 9] (fun ov fv iv wr => ∃ k : Nat, k ≤ np ∧ fv = .int .i64 (cutAt s k) ∧ iv = .int .i64 (k : Int) ∧ (∃ u, ov = u ∧ wr.ownsRow M₀ 49 6 u (outK d s k).length ((outK d s k).flatMap encIt)) ∧ Below M₀ w3 wr) (fun _ _ iv _ => np - (RowKit.intOf iv).toNat)
 case atStart => exact ⟨0, Nat.zero_le _, rfl, rfl, ⟨_, rfl, World.ownsRow_nil _ _ _ _⟩, Below.refl _ _⟩
 case round =>
  obtain ⟨k, hk, rfl, rfl, ⟨u, rfl, hown⟩, Bk⟩ := hrel
  obtain ⟨uq, uc, rfl, -, -⟩ := owns_shape hown
  have hol := outK_len d s k
  rw [hol] at hown ⊢
  replace hol := hid hol
  have hzk := Bk.size
  have hzk' : M₀ ≤ wr.heap.size := Nat.le_trans hzM hzk
  by_cases hkl : k < np
  ·have hkI : (k : Int) < (np : Int) := by omega
   obtain ⟨p1, p2, p3, p4⟩ := hpt.out k hkl
   have hosu := outK_succ d s k
   have hcb := cutAt_bd s k
   have hpie : pieceAt s k = s.extract (cutAt s k).toNat (cutAt s (k + 1)).toNat := rfl
   have hpsz := piece_size s k
   have hpx1 := hpx.out (by omega) (cutAt s k).toNat (cutAt s (k + 1)).toNat
   have hss1 := hid (hss.out (by omega))
   rw [← hpie] at hpx1
   obtain ⟨i, hi9⟩ : ∃ i : Nat, cutAt s k = (i : Int) := ⟨(cutAt s k).toNat, by omega⟩
   obtain ⟨j, hj9⟩ : ∃ j : Nat, cutAt s (k + 1) = (j : Int) := ⟨(cutAt s (k + 1)).toNat, by omega⟩
   rw [hi9, hj9] at hpx1
   rw [hj9] at p1 p2 p3 p4
   rw [hi9] at p3 hcb ⊢
   simp only [Int.toNat_natCast] at hpx1
   obtain ⟨T, hT9⟩ : ∃ T, pieceAt s k = T := ⟨_, rfl⟩
   rw [hT9] at hosu hpsz hpx1
   obtain ⟨TW, hTW⟩ : ∃ x, tm T = x := ⟨_, rfl⟩
   have hbx : boxT T = ⟨1, TW, 0, 0, 0, T⟩ := by unfold boxT; rw [hTW]
   rw [hbx] at hosu
   have cO1 := cO.out T (by omega)
   rw [hTW] at cO1
   obtain ⟨bp, op, cp, hpe, -, -, hp9⟩ := (kP.out _ Bk).open (by rintro rfl; simp at p1)
   obtain rfl := (Value.slice.inj hpe).1
   have kK := hid (fun V (h : Below M₀ w3 V) => (show V.cell? ⟨bp, op + k, none⟩ = some (.int .i64 (j : Int)) from by
    obtain ⟨b8, o8, c8, e8, -, -, h8⟩ := (kP.out V h).open (by rintro rfl; simp at p1)
    obtain ⟨h7, -, -⟩ := Value.slice.inj e8
    obtain ⟨rfl, rfl, -⟩ := Addr.mk.inj (Option.some.inj h7)
    have := rangeAt_one (h8 k _ p1)
    rwa [Nat.mul_one] at this))
   have hck := kK.out _ Bk
   obtain ⟨sv, hsv, hsvs, p9, c9, rfl⟩ := slice_mid (P := Tryz.prog) (enc := encI) 50 3 (by kernel_rfl) (by kernel_rfl) (i := i) (j := j) (by omega) (by have := hss1.out; omega) (kG.out _ Bk)
   have cT1 := hid (cTx.out wr (.slice p9 (j - i) c9) _ (by simp; omega) (hsvs _ (kG.out _ Bk)) (fun x hx => hsr x (List.mem_of_mem_take (List.mem_of_mem_drop hx))))
   rw [hpx1] at cT1
   replace hsv := hid hsv
   replace hosu := hid hosu
   replace hpie := hid hpie
   replace hj9 := hid hj9
   clear hp9 hpe hpx1 hsvs hT9 hTW hbx p1 cTx
   go_upto_region 9 with (first | refine wpList_slice rfl 50 _ _ _ rfl (.slice p9 (j - i) c9) hsv.out ?_)
   refine cT1.out.mono ?_
   rintro r w5 ⟨rfl, b5⟩
   go_upto_region 9 with (fail)
   obtain ⟨Wq, hWq⟩ : ∃ W : World, W = w5 := ⟨_, rfl⟩
   subst hWq
   have B5 := Bk.trans (b5.mono hzk')
   have o5 : Wq.drew.ownsRow M₀ 49 6 (.slice uq (2 * k) uc) (2 * k) ((outK d s k).flatMap encIt) := (Kept.of_below ((Below.refl _ Wq).drewN 1) 0).owns ((Kept.of_below b5 0).owns hown)
   have hst : (fun V => Below M₀ w3 V) Wq.drew := B5.drewN 1
   have hMs : M₀ ≤ Wq.drew.heap.size := Nat.le_trans hzM hst.size
   clear hown b5 cT1
   replace cO := hid cO1
   refine wp_region_held_drew (S := (fun V => Below M₀ w3 V)) (by kernel_rfl) hst (fun hHeld => ?_)
   generalize Wq.drew = W5 at *
   refine tkH 0 (some 36) ?_ rfl (Or.inl ⟨by rfl, ?_⟩) ?_; rotate_left
   ·intro w hSw; (try dsimp only at hSw); go_simp <;> with_reducible rfl
   try simp only [Act.put, aS, aZ, aC]
   refine tkH 1 (some 37) ?_ rfl (Or.inl ⟨by rfl, ?_⟩) ?_; rotate_left
   ·intro w hSw; (try dsimp only at hSw); go_simp <;> with_reducible rfl
   try simp only [Act.put, aS, aZ, aC]
   refine tkH 4 (some 40) ?_ rfl (Or.inl ⟨by rfl, ?_⟩) ?_; rotate_left
   ·intro w hSw; (try dsimp only at hSw); go_simp <;> with_reducible rfl
   try simp only [Act.put, aS, aZ, aC]
   refine tkH 5 (some 41) ?_ rfl (Or.inl ⟨by rfl, ?_⟩) ?_; rotate_left
   ·intro w hSw; (try dsimp only at hSw); have h9 := kC.out _ hSw; go_simp <;> with_reducible rfl
   try simp only [Act.put, aS, aZ, aC]
   refine wpAnyH_ready (rs := [2]) (by kernel_rfl) (by simp) ?_
   refine AllReadyH.cons (o := ⟨some 38, _, _, _, _, _⟩) rfl (fun K hK => ?_) AllReadyH.nil
   go_simp
   refine (cO.out _).mono ?_
   rintro r w7 ⟨rfl, b7⟩
   have o7 := (Kept.of_below b7 0).owns o5
   have b8 := hHeld.trans (b7.mono hMs)
   have hM7 := Nat.le_trans hMs b7.size
   clear hHeld b7 o5
   refine hK.out _ _ (b8) (fun hHeld => ?_)
   clear hK K
   try simp only [Act.put, aS, aZ, aC]
   refine wpAnyH_ready (rs := [3]) (by kernel_rfl) (by simp) ?_
   refine AllReadyH.cons (o := ⟨some 39, _, _, _, _, _⟩) rfl (fun K hK => ?_) AllReadyH.nil
   go_simp
   refine (cS.out w7).mono ?_
   rintro r w8 ⟨rfl, rfl⟩
   refine hK.out _ _ (hHeld) (fun hHeld => ?_)
   clear hK K
   try simp only [Act.put, aS, aZ, aC]
   refine tkH 6 (some 42) ?_ rfl (Or.inl ⟨by rfl, ?_⟩) ?_; rotate_left
   ·intro w hSw; (try dsimp only at hSw); go_simp <;> with_reducible rfl
   try simp only [Act.put, aS, aZ, aC]
   refine wpAnyH_ready (rs := [7]) (by kernel_rfl) (by simp) ?_
   refine AllReadyH.cons (o := ⟨some 43, _, _, _, _, _⟩) rfl (fun K hK => ?_) AllReadyH.nil
   go_simp
   obtain ⟨nb, hn9⟩ : ∃ n, w8.heap.size = n := ⟨_, rfl⟩
   have g9 := World.alloc_heap_new w8 (.cells #[.int .i64 1, .int .i64 TW, .int .i64 0, .int .i64 0, .int .i64 0, .string T, .int .i64 3, .int .i64 4, .int .i64 0, .int .i64 0, .int .i64 d, .string ⟨#[]⟩] 49)
   rw [hn9] at g9
   have kZ := Kept.alloc 0 w8 (.cells #[.int .i64 1, .int .i64 TW, .int .i64 0, .int .i64 0, .int .i64 0, .string T, .int .i64 3, .int .i64 4, .int .i64 0, .int .i64 0, .int .i64 d, .string ⟨#[]⟩] 49)
   have bA := hHeld.alloc hM7 (.cells #[.int .i64 1, .int .i64 TW, .int .i64 0, .int .i64 0, .int .i64 0, .string T, .int .i64 3, .int .i64 4, .int .i64 0, .int .i64 0, .int .i64 d, .string ⟨#[]⟩] 49)
   have o8 := kZ.owns o7
   have hM9 : M₀ ≤ (w8.alloc (.cells #[.int .i64 1, .int .i64 TW, .int .i64 0, .int .i64 0, .int .i64 0, .string T, .int .i64 3, .int .i64 4, .int .i64 0, .int .i64 0, .int .i64 d, .string ⟨#[]⟩] 49)).heap.size := by rw [World.size_alloc]; omega
   try rw [hn9]
   obtain ⟨x9, hx9⟩ : ∃ W : World, W = w8.alloc (.cells #[.int .i64 1, .int .i64 TW, .int .i64 0, .int .i64 0, .int .i64 0, .string T, .int .i64 3, .int .i64 4, .int .i64 0, .int .i64 0, .int .i64 d, .string ⟨#[]⟩] 49) := ⟨_, rfl⟩
   rw [← hx9] at g9 bA o8 hM9 ⊢
   clear hx9 kZ hHeld hn9 o7 hM7
   refine hK.out _ _ (bA) (fun hHeld => ?_)
   clear hK K
   try simp only [Act.put, aS, aZ, aC]
   refine wpAnyH_ready (rs := [8]) (by kernel_rfl) (by simp) ?_
   refine AllReadyH.cons (o := ⟨some 44, _, _, _, _, _⟩) rfl (fun K hK => ?_) AllReadyH.nil
   refine (if_pos (by rfl)).mpr ?_
   refine wp_append_slG _ _ 40 rfl M₀ 49 i0 (.agg #[.int .i64 0, .int .i64 0, .int .i64 0, .int .i64 0, .int .i64 0, .string ⟨#[]⟩]) 6 56 Tryz.underlying40 hi hz0 hz1 hz2 rfl (by decide) _ _ _ rfl o8 encIt _ [⟨1, TW, 0, 0, 0, T⟩, penT d] rfl (sl_of_block (l := [(⟨1, TW, 0, 0, 0, T⟩ : It), penT d]) (cap := 2) g9 rfl (fun _ _ => rfl) (Nat.le_refl _) (by decide)) (encIt_enc _) (by unfold maxLen; simp only [List.length_cons, List.length_nil]; omega) (by simp only [List.length_cons, List.length_nil]; omega) hM9 (fun v9 w9 o9 hg9 n9 => hK.out _ _ ?_ (fun hHeld => ?_))
   ·exact hHeld.grown hg9 hM9 (fun j e9 => own_base2 o8 e9)
   clear hK K
   try simp only [Act.put, aS, aZ, aC]
   refine tkH 9 (some 7) ?_ rfl (Or.inl ⟨by rfl, ?_⟩) ?_; rotate_left
   ·intro w hSw; (try dsimp only at hSw); go_simp <;> with_reducible rfl
   try simp only [Act.put, aS, aZ, aC]
   refine wpAnyH_done (by kernel_rfl) ?_ _
   skip
   obtain ⟨vq, vc, rfl, -, -⟩ := owns_shape o9
   have hck := kK.out _ hHeld
   have hof : w9.ownsRow M₀ 49 6 (.slice vq (2 * k + [(⟨1, TW, 0, 0, 0, T⟩ : It), penT d].length) vc) (outK d s (k + 1)).length ((outK d s (k + 1)).flatMap encIt) := by
    rw [hosu.out, List.length_append, List.flatMap_append, outK_len]
    exact o9
   replace hof := hid hof
   clear o9 o8 hg9 n9 kK g9 hMs hM9 cO
   go_wp2_with (fail)
   exact ⟨⟨k + 1, by omega, by rw [hj9.out], by go_num, ⟨_, rfl, hof.out⟩, hHeld⟩, by simp [RowKit.intOf]; omega⟩
  ·obtain rfl : k = np := by omega
   by_cases hn0 : k = 0
   ·subst hn0
    have hw1 := hwn.out rfl
    have hc0 : cutAt s 0 = 0 := rfl
    rw [hc0]
    obtain ⟨TW, hTW⟩ : ∃ x, tm s = x := ⟨_, rfl⟩
    have hbx : boxT s = ⟨1, TW, 0, 0, 0, s⟩ := by unfold boxT; rw [hTW]
    rw [hbx] at hw1
    replace hw1 := hid hw1
    have cO1 := cO.out s (by omega)
    rw [hTW] at cO1
    clear hTW hbx hown
    replace cO1 := hid cO1
    go_upto_region 12 with (fail)
    go_wp2_with (fail)
    refine (cO1.out _).mono ?_
    rintro r w7 ⟨rfl, b7⟩
    have b8 := Bk.trans (b7.mono hzk')
    have z8 : M₀ ≤ w7.heap.size := Nat.le_trans hzM b8.size
    have B9 := B3.trans ((b8.alloc z8 (.cells #[.int .i64 1, .int .i64 TW, .int .i64 0, .int .i64 0, .int .i64 0, .string s] 49)).mono (Nat.le_of_lt hnM))
    have o9 := owns_lit w7 n₀ 49 6 1 [.int .i64 1, .int .i64 TW, .int .i64 0, .int .i64 0, .int .i64 0, .string s] (by omega) rfl (by decide)
    replace B9 := hid B9
    replace o9 := hid o9
    clear b7 b8 hol cO hpt hpx hss hwo hwn hlp kP kG kC cS cTx Bk B3
    go_wp2_with (fail)
    go_ret
    rw [hw1.out]
    exact ⟨_, rfl, o9.out, B9.out⟩
   ·have hpx1 := hpx.out hn0 (cutAt s k).toNat s.size
    have hsn := hss.out hn0
    have hw1 := hwo.out
    rw [hlp.out] at hw1
    obtain ⟨-, p2, -, p4⟩ := hpt.out (k - 1) (by omega)
    rw [show k - 1 + 1 = k by omega] at p2 p4
    have hsz : (s.extract (cutAt s k).toNat s.size).size ≤ 2000000 := by rw [ByteArray.size_extract]; omega
    obtain ⟨i, hi9⟩ : ∃ i : Nat, cutAt s k = (i : Int) := ⟨(cutAt s k).toNat, by omega⟩
    rw [hi9] at hpx1 p2 p4 hsz hw1 ⊢
    simp only [Int.toNat_natCast] at hpx1 hsz hw1
    rw [List.take_of_length_le (by omega)] at hpx1
    obtain ⟨sv, hsv, hsvs, p9, c9, rfl⟩ := slice_drop (P := Tryz.prog) (enc := encI) (k := i) 50 3 1 (by kernel_rfl) (by kernel_rfl) (by omega) (kG.out _ Bk)
    have hdl : (SG.drop i).length ≤ 2000000 := by rw [List.length_drop]; omega
    obtain ⟨T, hT9⟩ : ∃ T, s.extract i s.size = T := ⟨_, rfl⟩
    rw [hT9] at hpx1 hsz hw1
    obtain ⟨TW, hTW⟩ : ∃ x, tm T = x := ⟨_, rfl⟩
    have hbx : boxT T = ⟨1, TW, 0, 0, 0, T⟩ := by unfold boxT; rw [hTW]
    rw [hbx] at hw1
    replace hw1 := hid hw1
    have cO1 := cO.out T (by omega)
    rw [hTW] at cO1
    have cT1 := hid (cTx.out wr (.slice p9 (SG.length - i) c9) _ (by omega) (hsvs _ (kG.out _ Bk)) (fun x hx => hsr x (List.mem_of_mem_drop hx)))
    rw [hpx1] at cT1
    have hi0 : (i : Int) ≠ 0 := by omega
    have hi1 : (i : Int) ≤ s.size := by omega
    clear hpx1 hsn hsz hdl hT9 hTW hbx hi9 hsvs p2 p4
    replace hsv := hid hsv
    replace cO1 := hid cO1
    clear cO hpt hpx hss hwo hwn hlp kP kG kC cS cTx
    go_upto_region 13 with (fail)
    go_upto_region 14 with (first | refine wpList_slice rfl 50 _ _ _ rfl (.slice p9 (SG.length - i) c9) hsv.out ?_)
    refine cT1.out.mono ?_
    rintro r w5 ⟨rfl, b5⟩
    have b6 := Bk.trans (b5.mono hzk')
    have o5 := (Kept.of_below b5 0).owns hown
    have z6 : M₀ ≤ w5.heap.size := Nat.le_trans hzM b6.size
    clear Bk b5 hown cT1
    go_upto_region 14 with (fail)
    go_wp2_with (fail)
    refine (cO1.out _).mono ?_
    rintro r w7 ⟨rfl, b7⟩
    have b8 := b6.trans (b7.mono z6)
    have o7 := (Kept.of_below b7 0).owns o5
    have z8 : M₀ ≤ w7.heap.size := Nat.le_trans hzM b8.size
    have o8 := (Kept.alloc 0 w7 (.cells #[.int .i64 1, .int .i64 TW, .int .i64 0, .int .i64 0, .int .i64 0, .string T] 49)).owns o7
    have B8 := b8.alloc z8 (.cells #[.int .i64 1, .int .i64 TW, .int .i64 0, .int .i64 0, .int .i64 0, .string T] 49)
    have s8 := sl_of_block (k := 6) (enc := encIt) (l := [(⟨1, TW, 0, 0, 0, T⟩ : It)]) (cap := 1) (World.alloc_heap_new w7 (.cells #[.int .i64 1, .int .i64 TW, .int .i64 0, .int .i64 0, .int .i64 0, .string T] 49)) rfl (fun _ _ => rfl) (Nat.le_refl _) (by decide)
    have z9 : M₀ ≤ (w7.alloc (.cells #[.int .i64 1, .int .i64 TW, .int .i64 0, .int .i64 0, .int .i64 0, .string T] 49)).heap.size := by rw [World.size_alloc]; omega
    clear b6 b7 b8 o5 o7
    replace B8 := hid B8
    replace o8 := hid o8
    replace s8 := hid s8
    go_wp2_with (at_builtin; go_must (refine wpList_append_sl rfl _ _ 40 rfl M₀ 49 i0 (.agg #[.int .i64 0, .int .i64 0, .int .i64 0, .int .i64 0, .int .i64 0, .string ⟨#[]⟩]) 6 56 Tryz.underlying40 hi hz0 hz1 hz2 rfl (by decide) _ _ _ rfl o8.out encIt _ [⟨1, TW, 0, 0, 0, T⟩] rfl s8.out (encIt_enc _) (by unfold maxLen; simp only [List.length_cons, List.length_nil]; omega) (by simp only [List.length_cons, List.length_nil]; omega) z9 ?_; intro v9 w9 o9 hg9 n9))
    go_ret
    refine ⟨_, rfl, ?_, B3.trans ((B8.out.grown hg9 z9 (fun j e9 => own_base2 o8.out e9)).mono (Nat.le_of_lt hnM))⟩
    rw [hw1.out, List.length_append, List.flatMap_append, outK_len]
    exact owns_down (Nat.le_of_lt hnM) o9
end Go.Proofs.YtempicociampoaaGreatDoor
