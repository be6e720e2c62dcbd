/- The walk of index.Unpack (printed by gen_iym.py). -/
import Derived.Test.YtomgjapjeckokaaIyK
import Derived.Deep.DeepCutAuto
namespace Go.Proofs.Ytomgjapjeckokaa
open Go.RowKit Go.Shelf Go.Lib

/-- the entries of the first n leaves, if they are -/
def unpTo (bs : List (List UInt8)) : Nat → Option (List Ent)
  | 0 => some []
  | n + 1 => (unpTo bs n).bind fun acc => (decS (bs.getD n [])).bind fun p => if p.length < 3 ∧ n + 1 < bs.length then none else some (acc ++ p)
def unpS (bs : List (List UInt8)) : Option (List Ent) := (unpTo bs bs.length).bind fun l => if goodI l = true then some l else none
def AnsU (w' : World) (base : Nat) (r : Option (List Ent)) (v : Value) (er : Int) : Prop := match r with
  | none => v = .slice none 0 0 ∧ er = 11
  | some l => w'.ownsRow base 48 35 v l.length (l.flatMap encE) ∧ er = 0
theorem unpTo_stop {bs : List (List UInt8)} {n m : Nat} (h : unpTo bs n = none) (hm : n ≤ m) : unpTo bs m = none := by
  induction m with
  | zero => obtain rfl : n = 0 := by omega
            exact h
  | succ m ih =>
    by_cases e : n = m + 1
    · rw [← e]; exact h
    · rw [unpTo, ih (by omega)]; rfl
theorem entsU_ok {bl : List UInt8} {n : Nat} (h : bl.length = 36 * n) : ∀ e ∈ entsU bl n, intOkE e := fun e he => by
  have hk := entsU_keys h e he
  unfold entsU at he
  obtain ⟨j, hj, rfl⟩ := List.mem_map.1 he
  refine ⟨hk, ?_⟩
  unfold entAt decE
  generalize (List.take 36 (List.drop (36 * j) bl)).getD 32 0 = a
  generalize (List.take 36 (List.drop (36 * j) bl)).getD 33 0 = b
  have h1 := a.toNat_lt
  have h2 := b.toNat_lt
  dsimp only
  omega
theorem decS_ok {bl : List UInt8} (h : bl.length = 128) {p : List Ent} (hp : decS bl = some p) : p.length ≤ 3 ∧ 1 ≤ p.length ∧ ∀ e ∈ p, intOkE e := by
  unfold decS at hp
  split at hp
  · rename_i hc
    cases hp
    refine ⟨?_, (goodL_len hc.2.1).1, ?_⟩
    · unfold leafL; rw [entsU_len]; exact hc.1
    · exact entsU_ok (by simp only [List.length_take, List.length_drop, h]; omega)
  · cases hp
theorem unpTo_ok {bs : List (List UInt8)} (hb : ∀ b ∈ bs, b.length = 128) : ∀ {n : Nat} {l : List Ent}, n ≤ bs.length → unpTo bs n = some l → l.length ≤ 3 * n ∧ ∀ e ∈ l, intOkE e
  | 0, l, _, h => by rw [unpTo] at h; cases h; exact ⟨by simp, fun e he => by cases he⟩
  | n + 1, l, hn, h => by
    rw [unpTo] at h
    obtain ⟨acc, h1, h2⟩ := Option.bind_eq_some_iff.1 h
    obtain ⟨p, h3, h4⟩ := Option.bind_eq_some_iff.1 h2
    obtain ⟨a1, a2⟩ := unpTo_ok hb (by omega) h1
    have hbl : (bs.getD n []).length = 128 := by
      rw [List.getD_eq_getElem?_getD, List.getElem?_eq_getElem (by omega)]
      exact hb _ (List.getElem_mem _)
    obtain ⟨b1, -, b2⟩ := decS_ok hbl h3
    split at h4
    · cases h4
    · cases h4
      refine ⟨by rw [List.length_append]; omega, fun e he => ?_⟩
      rcases List.mem_append.1 he with he | he
      · exact a2 e he
      · exact b2 e he

set_option maxRecDepth 100000 in
set_option maxHeartbeats 4000000 in
theorem Unpack_any (bs : List (List UInt8)) (v : Value) (w : World) (hs : Sl w 128 keyV v bs) (hb : ∀ b ∈ bs, b.length = 128) (hl : bs.length ≤ 10000) :
    Calls Try.prog 12 #[v] w fun e w' => ∃ v' er, e = .returned (.tuple #[v', .int .i64 er]) ∧ Below w.heap.size w w' ∧ AnsU w' w.heap.size (unpS bs) v' er := by
  obtain ⟨i0, z, hi0, hz0, hz1, hz2, hz3⟩ := infoE_parts
  obtain ⟨n₀, hn₀⟩ : ∃ n, w.heap.size = n := ⟨_, rfl⟩
  obtain ⟨vp, vc, rfl, hlc⟩ := hs.shape
  have hsB : ∀ W, Below n₀ w W → Sl W 128 keyV (.slice vp bs.length vc) bs := fun W hB => (Kept.of_below (hn₀ ▸ hB : Below w.heap.size w W) 0).sl hs
  obtain ⟨L, hL⟩ : ∃ x, bs.length = x := ⟨_, rfl⟩
  rw [hL] at hsB hl ⊢
  rw [hn₀]
  have B0 : Below n₀ w w := Below.refl _ _
  have hn1 : n₀ ≤ w.heap.size := by omega
  have hLw : IntKind.i64.wrap ((L : Int) - 1) = (L : Int) - 1 := by rw [IntKind.wrap_i64]; omega
  replace hL := hid hL
  replace hsB := hid hsB
  clear hs
  go_enter Try.func12, Try.ntmps12
  go_wp2_with (fail)
  go_loopw [4, 11] (fun ov iv wr => ∃ (k : Nat) (acc : List Ent), k ≤ L ∧ iv = .int .i64 k ∧ unpTo bs k = some acc ∧ wr.ownsRow n₀ 48 35 ov acc.length (acc.flatMap encE) ∧ Below n₀ w wr) (fun _ iv _ => L - (RowKit.intOf iv).toNat)
  case atStart => exact ⟨0, [], Nat.zero_le _, rfl, rfl, World.ownsRow_nil _ _ _ _, B0⟩
  case round =>
    obtain ⟨k, acc, hkL, rfl, hacc, oW, qB⟩ := hrel
    clear B0
    obtain ⟨pb, cb, rfl, -, -⟩ := owns_shape oW
    obtain ⟨hal, hao⟩ := unpTo_ok hb (by rw [hL.out]; exact hkL) hacc
    have hzr := qB.size
    have hnr : n₀ ≤ wr.heap.size := by omega
    obtain ⟨AL, hAL⟩ : ∃ x, acc.length = x := ⟨_, rfl⟩
    rw [hAL] at oW hal ⊢
    replace hAL := hid hAL
    by_cases hlt : k < L
    · have hkI : (k : Int) < (L : Int) := by omega
      have qs := hsB.out wr qB
      obtain ⟨b2, hb2⟩ : ∃ e, bs[k]? = some e := ⟨_, List.getElem?_eq_getElem (by rw [hL.out]; omega)⟩
      have hbl := hb b2 (List.mem_of_getElem? hb2)
      obtain ⟨b', o', c', he', -, -, hc⟩ := qs.open (by rintro rfl; simp at hb2)
      obtain ⟨rfl, -, rfl⟩ := Value.slice.inj he'
      clear he'
      have hr2 := hc k b2 hb2
      have hgd : bs.getD k [] = b2 := by rw [List.getD_eq_getElem?_getD, hb2]; rfl
      have hstep : unpTo bs (k + 1) = (decS b2).bind fun p => if p.length < 3 ∧ k + 1 < L then none else some (acc ++ p) := by rw [unpTo, hacc, Option.bind_some, hgd, hL.out]
      have hi6 : (Try.prog.info? 43).map (·.size) = some (keyV b2).length := by rw [keyV_len, hbl]; kernel_rfl
      have hi7 : (Try.prog.info? 43).map (·.size) = some (rowU b2).size := by rw [rowU_size, hbl]; kernel_rfl
      obtain ⟨ne, hne⟩ : ∃ n, wr.heap.size = n := ⟨_, rfl⟩
      have g1 := World.alloc_heap_new wr (.cells Try.zeroCells43 43)
      rw [hne] at g1
      have ht1 : (wr.alloc (.cells Try.zeroCells43 43)).there ne 0 (rowU b2).size := there_blk g1 (by rw [rowU_size, hbl]; kernel_rfl)
      have u1 := (Upd.refl g1).setCells (rowU b2).toList (by rw [Array.length_toList, rowU_size, hbl]; kernel_rfl)
      have oW1 := upd_owns u1 g1 (by decide) ((Kept.alloc 0 wr (.cells Try.zeroCells43 43)).owns oW)
      have hB1 := u1.below (qB.alloc (by omega) (.cells Try.zeroCells43 43)) (by omega)
      have g2 := u1.here
      rw [Array.toArray_toList] at g2
      have hz1' : ne + 1 ≤ ((wr.alloc (.cells Try.zeroCells43 43)).setCells ne 0 (rowU b2).toList).heap.size := by have h9 := u1.size; rw [World.size_alloc, hne] at h9; omega
      clear u1 g1 qs qB hc oW
      replace hstep := hid hstep
      clear hacc hb2 hgd
      go_upto_region 5 with (first | refine wpList_load_mid rfl 43 _ rfl b' (o' + k * 128) rfl (keyV b2) _ hr2 Try.underlying43 rfl hi6 ?_ | refine wpList_store_mid rfl 43 _ _ rfl ne 0 (rowU b2) rfl rfl ht1 hi7 (one_rowU _) ?_)
      try simp only [Act.put]
      obtain ⟨W4, hW4⟩ : ∃ W : World, W = (wr.alloc (.cells Try.zeroCells43 43)).setCells ne 0 (rowU b2).toList := ⟨_, rfl⟩
      rw [← hW4] at g2 oW1 hB1 hz1' ⊢
      clear hW4 ht1 hr2
      have hr5 := range_blk (cs := keyV b2) g2
      have cD := hid (Decode_any b2 W4 hbl)
      go_wp2_with (refine wpList_load_mid rfl 43 _ rfl ne 0 rfl (keyV b2) _ hr5 Try.underlying43 rfl hi6 ?_)
      refine cD.out.mono ?_
      rintro e W6 ⟨v6, er6, rfl, b6, ans6⟩
      have oW6 := (Kept.of_below b6 0).owns oW1
      have hB6 := hB1.trans (b6.mono (by have := hB1.size; omega))
      clear cD hr5 g2 oW1 hB1 b6
      cases hd : decS b2 with
      | none =>
        rw [hd] at ans6
        obtain ⟨rfl, rfl⟩ := ans6
        have hres : unpS bs = none := by unfold unpS; rw [unpTo_stop (n := k + 1) (by rw [hstep.out, hd]; rfl) (by rw [hL.out]; omega)]; rfl
        replace hres := hid hres
        clear hstep hd
        go_wp2_with (fail)
        go_ret2
        exact ⟨_, _, rfl, hB6, by rw [hres.out]; exact ⟨rfl, rfl⟩⟩
      | some p =>
        rw [hd] at ans6
        obtain ⟨o6, hv6, rfl⟩ := ans6
        obtain ⟨hp3, hp1, hpo⟩ := decS_ok hbl hd
        have s6 := sl_of_owns (enc := encE) (fun x hx => by rw [encE_len, (hpo x hx).1]) o6
        obtain ⟨p6, c6, rfl, -, -⟩ := owns_shape o6
        have hep := encE_enc (fun x hx => (hpo x hx).1)
        have hst2 : unpTo bs (k + 1) = if p.length < 3 ∧ k + 1 < L then none else some (acc ++ p) := by rw [hstep.out, hd]; rfl
        obtain ⟨PN, hPN⟩ : ∃ x, p.length = x := ⟨_, rfl⟩
        rw [hPN] at hst2 hp3 hp1 ⊢
        have s6' : Sl W6 35 encE (.slice p6 PN c6) p := by rw [← hPN]; exact s6
        replace hPN := hid hPN
        clear hstep hd o6 s6 hv6
        by_cases hshort : PN < 3 ∧ k + 1 < L
        · have hres : unpS bs = none := by unfold unpS; rw [unpTo_stop (n := k + 1) (by rw [hst2, if_pos hshort]) (by rw [hL.out]; omega)]; rfl
          have e1 : (PN : Int) < 3 := by omega
          have e2 : (k : Int) < (L : Int) - 1 := by omega
          replace hres := hid hres
          clear hst2 hshort s6'
          go_wp2_with (fail)
          go_ret2
          exact ⟨_, _, rfl, hB6, by rw [hres.out]; exact ⟨rfl, rfl⟩⟩
        · rw [if_neg hshort] at hst2
          have hcs : ((PN : Int) < 3 ∧ ¬ (k : Int) < (L : Int) - 1) ∨ ¬ (PN : Int) < 3 := by omega
          clear hshort
          replace hst2 := hid hst2
          have hz6 : n₀ ≤ W6.heap.size := by have := hB6.size; omega
          replace s6' := hid s6'
          replace hpo := hid hpo
          rcases hcs with ⟨e1, e2⟩ | e1
          all_goals
            go_wp2_with (at_builtin; go_must (refine wpList_append_sl rfl _ _ 22 rfl n₀ 48 i0 z 35 56 Try.underlying22 hi0 hz0 hz1 hz2 hz3 (by decide) _ _ _ rfl oW6 encE _ p rfl s6'.out hep (by unfold maxLen; rw [hPN.out]; omega) (by rw [hPN.out]; omega) hz6 ?_; intro v7 w7 o7 hg7 n7))
            have B7 := hB6.grown hg7 hz6 (fun j e9 => own_baseI oW6 e9)
            have o8 : w7.ownsRow n₀ 48 35 v7 (acc ++ p).length ((acc ++ p).flatMap encE) := by rw [List.length_append, hAL.out, List.flatMap_append]; exact o7
            replace o8 := hid o8
            replace B7 := hid B7
            clear o7 hg7 n7 oW6 hB6
            refine ⟨?_, ?_⟩
            · first | exact ⟨k + 1, acc ++ p, by omega, by go_num, hst2.out, o8.out, B7.out⟩ | ((repeat apply Exists.intro); refine ⟨?_, rfl⟩; exact ⟨k + 1, acc ++ p, by omega, by go_num, hst2.out, o8.out, B7.out⟩)
            · simp [RowKit.intOf]; omega
    · obtain rfl : k = L := by omega
      have hres0 : unpS bs = if goodI acc = true then some acc else none := by unfold unpS; rw [hL.out, hacc]; rfl
      have sA := sl_of_owns (enc := encE) (l := acc) (fun x hx => by rw [encE_len, (hao x hx).1]) (by rw [hAL.out]; exact oW)
      have cG := hid (iGood_all acc (.slice pb AL cb) wr sA hao (by rw [hAL.out]; omega))
      obtain ⟨gb, hgb⟩ : ∃ x, goodI acc = x := ⟨_, rfl⟩
      rw [hgb] at cG hres0
      clear hacc sA hgb
      replace hres0 := hid hres0
      go_wp2_with (fail)
      refine cG.out.mono ?_
      rintro e w9 ⟨rfl, b9⟩
      have o9 := (Kept.of_below b9 0).owns oW
      have B9 := qB.trans (b9.mono hnr)
      clear cG oW qB b9
      cases gb with
      | true =>
        replace o9 := hid o9
        go_wp2_with (fail)
        go_ret2
        exact ⟨_, _, rfl, B9, by rw [show unpS bs = some acc by rw [hres0.out]; rfl]; exact ⟨by rw [hAL.out]; exact o9.out, rfl⟩⟩
      | false =>
        clear o9
        go_wp2_with (fail)
        go_ret2
        exact ⟨_, _, rfl, B9, by rw [show unpS bs = none by rw [hres0.out]; rfl]; exact ⟨rfl, rfl⟩⟩
end Go.Proofs.Ytomgjapjeckokaa
