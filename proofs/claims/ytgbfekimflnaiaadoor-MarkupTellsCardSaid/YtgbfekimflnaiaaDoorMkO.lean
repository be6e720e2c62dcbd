/- MarkupWords: the walk. -/
import Derived.Test.YtgbfekimflnaiaaDoorMkM
import Derived.Test.YtgbfekimflnaiaaDoorApp
namespace Go.Proofs.YtgbfekimflnaiaaDoor
open Go.RowKit Go.Shelf Go.Lib

def encO (x : Int) : List Value := [.int .u8 x]

/-- a row whose blocks lie above another one that grows -/
theorem owns_apart {W W' : World} {base : Nat} {e : TypeId} {size : Nat} {v : Value} {n : Nat} {xs : List Value} (h : W.ownsRow base e size v n xs) {row : Option Nat} (hg : W.grownBy W' row) (hr : ∀ k, row = some k → k < base) : W'.ownsRow base e size v n xs := by
  obtain ⟨h0, h | ⟨b, c, cs, rfl, h1, h2, h3⟩⟩ := h
  · exact ⟨h0, .inl h⟩
  · refine ⟨h0, .inr ⟨b, c, cs, rfl, h1, ?_, h3⟩⟩
    rw [hg.block b (Array.getElem?_eq_some_iff.1 h2).1 (fun e => by have := hr b e.symm; omega)]
    exact h2
theorem own_lt {W : World} {base : Nat} {e : TypeId} {size : Nat} {v : Value} {n : Nat} {xs : List Value} (h : W.ownsRow base e size v n xs) {j : Nat} (hj : v.ownBlock = some j) : j < W.heap.size := by
  obtain ⟨-, ⟨rfl, -⟩ | ⟨b, c, cs, rfl, h1, h2, h3⟩⟩ := h
  · simp [Value.ownBlock] at hj
  · obtain rfl : b = j := by simpa [Value.ownBlock] using hj
    exact (Array.getElem?_eq_some_iff.1 h2).1
theorem wdsB_gap {A B X : ByteArray} (n : Nat) (h : B.data.toList = A.data.toList ++ List.replicate (n + 1) 32 ++ X.data.toList) : wdsB B = wdsB A ++ wdsB X := by
  rw [wdsB_words, wdsB_words, wdsB_words, h, words_more, List.map_append]
theorem wdsB_end {A B : ByteArray} (h : B.data.toList = A.data.toList ++ [32, 32]) : wdsB B = wdsB A := by
  rw [wdsB_words, wdsB_words, h, words_end]
theorem wdsB_mem {s T : ByteArray} (h : T ∈ wdsB s) : 0 < T.size ∧ T.size ≤ s.size ∧ ∀ (j : Nat) (hj : j < T.size), T[j] ≠ 32 := by
  have h1 : T.data.toList ∈ wordsL s.data.toList := by
    rw [← wds8]; exact List.mem_map.2 ⟨T, h, rfl⟩
  obtain ⟨h2, h3⟩ := wordsL_mem h1
  refine ⟨?_, by rw [← size8, ← size8]; exact lines_mem (List.mem_filter.1 h1).1, fun j hj he => h3 ?_⟩
  · rw [← size8]
    exact List.length_pos_iff.2 h2
  · rw [← he]
    exact List.getElem_mem (l := T.data.toList) (by rw [size8]; exact hj)

set_option maxRecDepth 100000 in
set_option maxHeartbeats 4000000 in
theorem MarkupWords_any (v : Value) (l : List ByteArray) (u : Value) (bl : List Int) (w : World) (hT : Tabs w) (hsl : Sl w 1 encT v l) (hsb : Sl w 1 encO u bl) (hbl : ∀ x ∈ bl, 0 ≤ x ∧ x ≤ 255) :
    Calls Tryd.prog 6 #[v, u] w fun e w' => e = .returned (.bool true) ∧ Below w.heap.size w w' := by
  obtain ⟨p, cap, rfl, hmx⟩ := hsl.shape
  obtain ⟨pb, capb, rfl, hmxb⟩ := hsb.shape
  unfold maxLen at hmx hmxb
  go_enter Tryd.func6, Tryd.ntmps6
  have cW := hid (wakes_any w hT)
  by_cases h60 : (60 : Int) < l.length
  · go_wp2_with (fail)
    refine cW.out.mono ?_
    rintro e w1 ⟨rfl, b1⟩
    go_wp2_with (fail)
    go_ret
    exact ⟨rfl, b1⟩
  · by_cases h100 : (100 : Int) < bl.length
    · go_wp2_with (fail)
      refine cW.out.mono ?_
      rintro e w1 ⟨rfl, b1⟩
      go_wp2_with (fail)
      go_ret
      exact ⟨rfl, b1⟩
    · clear cW
      go_wp2_with (fail)
      go_loopw [5, 6, 7, 8, 9, 10, 11, 12] (fun ln wt i _ _ _ _ _ wr => ∃ (k : Nat) (LN : ByteArray), k ≤ l.length ∧ i = .int .i64 k ∧ ln = .string LN ∧ LN.size ≤ 64 * k ∧ (∃ x, wt = x ∧ wr.ownsRow w.heap.size 9 1 x (wdsB LN).length ((wdsB LN).flatMap encT)) ∧ Below w.heap.size w wr) (fun _ _ i _ _ _ _ _ _ => l.length - (RowKit.intOf i).toNat)
      case atStart => exact ⟨0, ⟨#[]⟩, Nat.zero_le _, rfl, rfl, by decide, ⟨_, rfl, by first | exact World.ownsRow_nil _ _ _ _ | skip⟩, Below.refl _ _⟩
      case round =>
        obtain ⟨k, LN, hk, rfl, rfl, hLN, ⟨x0, rfl, o0⟩, hB⟩ := hrel
        by_cases hkl : k < l.length
        · have hkI : (k : Int) < (l.length : Int) := by omega
          obtain ⟨lb, lo, cap', he, h1, h2, hc⟩ := hsl.open (by rintro rfl; simp at hkl)
          simp only [Value.slice.injEq] at he
          obtain ⟨rfl, -, rfl⟩ := he
          have hck0 := rangeAt_one (hc k l[k] (List.getElem?_eq_getElem hkl))
          rw [Nat.mul_one] at hck0
          have hck := (Kept.of_below hB 0).cell hck0
          clear hc
          generalize l[k] = X at *
          replace hck0 := hid hck0
          by_cases h6 : (60 : Int) < X.size
          · have cW := hid (wakes_any wr (hT.below hB))
            go_wp2_with (fail)
            refine cW.out.mono ?_
            rintro e w1 ⟨rfl, b1⟩
            go_wp2_with (fail)
            go_ret
            exact ⟨rfl, hB.trans (b1.mono hB.size)⟩
          · have dW := hid (Words_any X wr (by omega))
            obtain ⟨i0, hi, hz0, hz1, hz2⟩ := info_parts Tryd.infoS
            have n1e : ∀ l : List ByteArray, ∀ x ∈ l, (encT x).length = 1 ∧ ∀ u ∈ encT x, u.oneCell' = true := fun l x _ => ⟨rfl, fun u hu => by obtain rfl := List.mem_singleton.1 hu; rfl⟩
            have lX := wdsB_len X
            have lN := wdsB_len LN
            have hmem := hid (fun T (h : T ∈ wdsB X) => wdsB_mem h)
            have hgap := hid (fun (B : ByteArray) (n : Nat) (h : B.data.toList = LN.data.toList ++ List.replicate (n + 1) 32 ++ X.data.toList) => wdsB_gap n h)
            generalize wdsB X = x at *
            generalize wdsB LN = y at *
            obtain ⟨px, qx, rfl, -, -⟩ := owns_shape o0
            go_wp2_with (fail)
            refine dW.out.mono ?_
            rintro e W1 ⟨v1, rfl, o1, b1⟩
            obtain ⟨p1, q1, rfl, -, -⟩ := owns_shape o1
            have o0' := (Kept.of_below b1 0).owns o0
            have hB1 := hB.trans (b1.mono hB.size)
            have z1 : Sl W1 1 encT (.slice p1 x.length q1) x := sl_of_owns (fun _ _ => rfl) o1
            have hB1s := hB1.size
            go_wp2_with (at_builtin; go_must (first
              | (refine wpList_append_sl rfl _ _ 37 rfl w.heap.size 9 i0 (.string ⟨#[]⟩) 1 16 Tryd.underlying37 hi hz0 hz1 hz2 rfl (by decide) _ _ _ rfl o0' encT _ x rfl z1 (n1e x) (by unfold maxLen; omega) (by omega) hB1s ?_
                 intro v2 W2 own2 grow2 _
                 obtain ⟨p2, q2, rfl, -, -⟩ := owns_shape own2
                 have hB2 := hB1.grown grow2 hB1.size (fun _ e => own_base o0' e)
                 have o2 := owns_apart o1 grow2 (fun j e => by have := own_lt o0 e; omega)
                 have z2 : Sl W2 1 encT (.slice p1 x.length q1) x := sl_of_owns (fun _ _ => rfl) o2)))
            obtain ⟨wo, hwo⟩ : ∃ W : World, W = wr := ⟨_, rfl⟩
            go_loopw [9, 10] (fun q _ wz => ∃ m : Nat, m ≤ x.length ∧ q = .int .i64 m ∧ W2 = wz) (fun q _ _ => x.length - (RowKit.intOf q).toNat)
            case atStart => exact ⟨0, Nat.zero_le _, rfl, rfl⟩
            case round =>
              obtain ⟨m, hm, rfl, rfl⟩ := hrel
              by_cases hml : m < x.length
              · have hmI : (m : Int) < (x.length : Int) := by omega
                obtain ⟨xb, xo, cap2, he, h4, h5, hc2⟩ := z2.open (by rintro rfl; simp at hml)
                simp only [Value.slice.injEq] at he
                obtain ⟨rfl, -, rfl⟩ := he
                have hcm := rangeAt_one (hc2 m x[m] (List.getElem?_eq_getElem hml))
                rw [Nat.mul_one] at hcm
                obtain ⟨hT0, hTz, hTs⟩ := hmem.out x[m] (List.getElem_mem hml)
                clear hc2
                generalize x[m] = T at *
                replace hTs := hid hTs
                have hTe : T.toList.isEmpty = false := by rw [empty8]; exact decide_eq_false fun h => by have h9 := size8 T; rw [h] at h9; simp at h9; omega
                go_wp2_with (fail)
                go_loopw [10] (fun j wy => ∃ n : Nat, n ≤ T.size ∧ j = .int .i64 n ∧ W2 = wy) (fun j _ => T.size - (RowKit.intOf j).toNat)
                case atStart => exact ⟨0, Nat.zero_le _, rfl, rfl⟩
                case round =>
                  obtain ⟨n, hn, rfl, rfl⟩ := hrel
                  by_cases hnl : n < T.size
                  · have hnI : (n : Int) < (T.size : Int) := by omega
                    have hb32 : ((T[n].toNat : Int) == 32) = false := by
                      have := hTs.out n hnl
                      simp only [beq_eq_false_iff_ne, ne_eq]
                      intro h
                      exact this (UInt8.toNat_inj.1 (by show T[n].toNat = 32; omega))
                    go_wp2_with (fail)
                    refine ⟨⟨n + 1, by omega, by go_num, by trivial⟩, by simp [RowKit.intOf]; omega⟩
                  · go_wp2_with (fail)
                    refine ⟨⟨m + 1, by omega, by go_num, by trivial⟩, by simp [RowKit.intOf]; omega⟩
              · obtain rfl : m = x.length := by omega
                have hckz := (Kept.of_below hB2 0).cell hck0.out
                by_cases hbk : k < bl.length
                · have hbI : (k : Int) < (bl.length : Int) := by omega
                  obtain ⟨bb, bo, cap3, he, h7, h8, hc3⟩ := hsb.open (by rintro rfl; simp at hbk)
                  simp only [Value.slice.injEq] at he
                  obtain ⟨rfl, -, rfl⟩ := he
                  have hcb := rangeAt_one ((Kept.of_below hB2 0).range (hc3 k bl[k] (List.getElem?_eq_getElem hbk)))
                  rw [Nat.mul_one] at hcb
                  have hyb := hbl bl[k] (List.getElem_mem hbk)
                  clear hc3
                  generalize bl[k] = yy at *
                  obtain ⟨N, hN, hN3⟩ : ∃ N : Nat, yy.tmod 4 = N ∧ N ≤ 3 := by
                    obtain ⟨n, rfl⟩ := Int.eq_ofNat_of_zero_le hyb.1
                    exact ⟨n % 4, rfl, by omega⟩
                  go_wp2_with (fail)
                  go_loopw [5, 12] (fun ln c wv => ∃ (q : Nat) (S : ByteArray), q ≤ N + 1 ∧ c = .int .i64 q ∧ ln = .string S ∧ S.data.toList = LN.data.toList ++ List.replicate q 32 ∧ W2 = wv) (fun _ c _ => N + 1 - (RowKit.intOf c).toNat)
                  case atStart => exact ⟨0, LN, Nat.zero_le _, rfl, rfl, by simp, rfl⟩
                  case round =>
                    obtain ⟨q, S, hq, rfl, rfl, hS, rfl⟩ := hrel
                    have hSz : S.size = LN.size + q := by rw [← size8, hS, List.length_append, List.length_replicate, size8]
                    replace hS := hid hS
                    replace hSz := hid hSz
                    have hSb : S.size ≤ 5000 := by rw [hSz.out]; omega
                    by_cases hql : q < N + 1
                    · have hqI : (q : Int) < 1 + (N : Int) := by omega
                      go_wp2_with (fail)
                      refine ⟨⟨q + 1, S ++ ⟨#[32]⟩, by omega, by go_num, rfl, by rw [ByteArray.data_append, Array.toList_append, hS.out, List.append_assoc, List.replicate_succ'], by trivial⟩, by simp [RowKit.intOf]; omega⟩
                    · obtain rfl : q = N + 1 := by omega
                      have hSX := hgap.out (S ++ X) N (by rw [ByteArray.data_append, Array.toList_append, hS.out])
                      have own3 : W2.ownsRow w.heap.size 9 1 (.slice p2 (y.length + x.length) q2) (wdsB (S ++ X)).length ((wdsB (S ++ X)).flatMap encT) := by
                        rw [hSX, List.length_append, List.flatMap_append]; exact own2
                      have hXz : (S ++ X).size = S.size + X.size := ByteArray.size_append
                      have hXb : X.size ≤ 60 := by omega
                      replace hSX := hid hSX
                      replace hXz := hid hXz
                      go_wp2_with (fail)
                      refine ⟨⟨k + 1, S ++ X, by omega, by go_num, rfl, by rw [hXz.out, hSz.out]; omega, ⟨_, rfl, own3⟩, hB2⟩, by simp [RowKit.intOf]; omega⟩
                · have hbI : ¬ (k : Int) < (bl.length : Int) := by omega
                  go_wp2_with (fail)
                  go_loopw [5, 12] (fun ln c wv => ∃ (q : Nat) (S : ByteArray), q ≤ 0 + 1 ∧ c = .int .i64 q ∧ ln = .string S ∧ S.data.toList = LN.data.toList ++ List.replicate q 32 ∧ W2 = wv) (fun _ c _ => 0 + 1 - (RowKit.intOf c).toNat)
                  case atStart => exact ⟨0, LN, Nat.zero_le _, rfl, rfl, by simp, rfl⟩
                  case round =>
                    obtain ⟨q, S, hq, rfl, rfl, hS, rfl⟩ := hrel
                    have hSz : S.size = LN.size + q := by rw [← size8, hS, List.length_append, List.length_replicate, size8]
                    replace hS := hid hS
                    replace hSz := hid hSz
                    have hSb : S.size ≤ 5000 := by rw [hSz.out]; omega
                    by_cases hql : q < 0 + 1
                    · have hqI : (q : Int) < 1 := by omega
                      go_wp2_with (fail)
                      refine ⟨⟨q + 1, S ++ ⟨#[32]⟩, by omega, by go_num, rfl, by rw [ByteArray.data_append, Array.toList_append, hS.out, List.append_assoc, List.replicate_succ'], by trivial⟩, by simp [RowKit.intOf]; omega⟩
                    · obtain rfl : q = 0 + 1 := by omega
                      have hSX := hgap.out (S ++ X) 0 (by rw [ByteArray.data_append, Array.toList_append, hS.out])
                      have own3 : W2.ownsRow w.heap.size 9 1 (.slice p2 (y.length + x.length) q2) (wdsB (S ++ X)).length ((wdsB (S ++ X)).flatMap encT) := by
                        rw [hSX, List.length_append, List.flatMap_append]; exact own2
                      have hXz : (S ++ X).size = S.size + X.size := ByteArray.size_append
                      have hXb : X.size ≤ 60 := by omega
                      replace hSX := hid hSX
                      replace hXz := hid hXz
                      go_wp2_with (fail)
                      refine ⟨⟨k + 1, S ++ X, by omega, by go_num, rfl, by rw [hXz.out, hSz.out]; omega, ⟨_, rfl, own3⟩, hB2⟩, by simp [RowKit.intOf]; omega⟩
        · obtain rfl : k = l.length := by omega
          obtain ⟨px, qx, rfl, -, -⟩ := owns_shape o0
          have hend := wdsB_end (A := LN) (B := LN ++ ⟨#[32, 32]⟩) (by rw [ByteArray.data_append, Array.toList_append])
          have hez : (LN ++ ⟨#[32, 32]⟩ : ByteArray).size = LN.size + 2 := by rw [ByteArray.size_append]; rfl
          have dW1 := hid (Words_any LN wr (by omega))
          have dW2 := hid (fun V => Words_any (LN ++ ⟨#[32, 32]⟩) V (by omega))
          rw [hend] at dW2
          clear hend
          generalize wdsB LN = y at *
          replace hez := hid hez
          go_wp2_with (fail)
          refine dW1.out.mono ?_
          rintro e w1 ⟨v1, rfl, o1, b1⟩
          obtain ⟨p1, q1, rfl, -, -⟩ := owns_shape o1
          have z1 : Sl w1 1 encT (.slice p1 y.length q1) y := sl_of_owns (fun _ _ => rfl) o1
          have z0 : Sl w1 1 encT (.slice px y.length qx) y := (Kept.of_below b1 0).sl (sl_of_owns (fun _ _ => rfl) o0)
          have cT := hid (Texts_eq w1 _ _ y z1 z0)
          have B1 := hB.trans (b1.mono hB.size)
          go_wp2_with (fail)
          refine cT.out.mono ?_
          rintro e w2 ⟨rfl, nd, rfl⟩
          have B2 := B1.drewN nd
          go_wp2_with (fail)
          refine (dW2.out _).mono ?_
          rintro e w3 ⟨v3, rfl, o3, b3⟩
          obtain ⟨p3, q3, rfl, -, -⟩ := owns_shape o3
          have z3 : Sl w3 1 encT (.slice p3 y.length q3) y := sl_of_owns (fun _ _ => rfl) o3
          have z03 : Sl w3 1 encT (.slice px y.length qx) y := (Kept.of_below b3 0).sl ((Kept.drewN 0 w1 nd).sl z0)
          have cT2 := hid (Texts_eq w3 _ _ y z3 z03)
          have B3 := B2.trans (b3.mono B2.size)
          go_wp2_with (fail)
          refine cT2.out.mono ?_
          rintro e w4 ⟨rfl, nd2, rfl⟩
          have B4 := B3.drewN nd2
          have cW := hid (wakes_any _ (hT.below B4))
          go_wp2_with (fail)
          refine cW.out.mono ?_
          rintro e w5 ⟨rfl, b5⟩
          go_wp2_with (fail)
          go_ret
          exact ⟨rfl, B4.trans (b5.mono B4.size)⟩
end Go.Proofs.YtgbfekimflnaiaaDoor
