/- The walks of slices.Contains at ints, leaf.Root (printed by gen_iye.py). -/
import Derived.Test.YtomgjapjeckokaaIyA
import Derived.Deep.DeepCutAuto
namespace Go.Proofs.Ytomgjapjeckokaa
open Go.RowKit Go.Shelf Go.Lib

set_option maxRecDepth 100000 in
set_option maxHeartbeats 1000000 in
theorem Index_any (l : List Int) (x : Int) (p : Option Addr) (L cap : Nat) (w : World) (hs : Sl w 1 encI (.slice p L cap) l) (hl : L ≤ 1000000) :
    Calls Try.prog 61 #[.slice p L cap, .int .i64 x] w fun r w' => ∃ k : Int, r = .returned (.int .i64 k) ∧ (0 ≤ k ↔ x ∈ l) ∧ w' = w := by
  have hL : L = l.length := by obtain ⟨p, c, h, -⟩ := hs.shape; exact (Value.slice.inj h).2.1
  go_enter Try.func61, Try.ntmps61
  go_wp2_with (fail)
  go_loopw [8] (fun iv wr => ∃ k : Nat, k ≤ L ∧ iv = .int .i64 k ∧ x ∉ l.take k ∧ wr = w) (fun iv _ => L - (RowKit.intOf iv).toNat)
  case atStart => exact ⟨0, Nat.zero_le _, rfl, by simp, rfl⟩
  case round =>
    obtain ⟨k, hk, rfl, hx, rfl⟩ := hrel
    by_cases hlt : k < L
    · have hkI : (k : Int) < (L : Int) := by omega
      obtain ⟨y, hy⟩ : ∃ y, l[k]? = some y := ⟨_, List.getElem?_eq_getElem (by omega)⟩
      obtain ⟨b, o, c, he, -, -, hc⟩ := hs.open (by rintro rfl; simp at hy)
      obtain ⟨rfl, -, rfl⟩ := Value.slice.inj he
      have hcell := rangeAt_one (hc k y hy)
      rw [Nat.mul_one] at hcell
      by_cases hxy : x = y
      · subst hxy
        have hm : x ∈ l := List.mem_of_getElem? hy
        go_wp2_with (fail)
        go_ret
        refine ⟨_, rfl, ?_, rfl⟩
        simp
      · have hxq : ¬ x ∈ l.take (k + 1) := by
          rw [List.take_add_one, hy]
          simp only [Option.toList_some, List.mem_append, List.mem_singleton, not_or]
          exact ⟨hx, hxy⟩
        replace hxq := hid hxq
        clear hx
        go_wp2_with (fail)
        refine ⟨?_, ?_⟩
        · first | exact ⟨k + 1, by omega, by go_num, hxq.out, (by first | rfl | trivial)⟩ | ((repeat apply Exists.intro); refine ⟨?_, rfl⟩; exact ⟨k + 1, by omega, by go_num, hxq.out, (by first | rfl | trivial)⟩)
        · simp [RowKit.intOf]; omega
    · obtain rfl : k = L := by omega
      rw [List.take_of_length_le (by omega)] at hx
      go_wp2_with (fail)
      go_ret
      exact ⟨_, rfl, ⟨fun h => absurd h (by decide), fun h => absurd h hx⟩, rfl⟩

set_option maxRecDepth 100000 in
set_option maxHeartbeats 1000000 in
theorem Contains_any (l : List Int) (x : Int) (p : Option Addr) (L cap : Nat) (w : World) (hs : Sl w 1 encI (.slice p L cap) l) (hl : L ≤ 1000000) :
    Calls Try.prog 46 #[.slice p L cap, .int .i64 x] w fun r w' => r = .returned (.bool (decide (x ∈ l))) ∧ w' = w := by
  have cI := hid (Index_any l x p L cap w hs hl)
  obtain ⟨m, hm⟩ : ∃ m, (x ∈ l) = m := ⟨_, rfl⟩
  have hd : decide (x ∈ l) = true ↔ x ∈ l := decide_eq_true_iff
  obtain ⟨d, hdd⟩ : ∃ d, decide (x ∈ l) = d := ⟨_, rfl⟩
  rw [hdd] at hd ⊢
  rw [hm] at cI hd
  clear hm hdd
  go_enter Try.func46, Try.ntmps46
  go_wp2_with (fail)
  refine cI.out.mono ?_
  rintro r w' ⟨k, rfl, hk, rfl⟩
  go_wp2_with (fail)
  go_ret
  have h9 : decide (0 ≤ k) = d := by rw [Bool.eq_iff_iff, decide_eq_true_iff, hk, hd]
  refine ⟨?_, rfl⟩
  first | rfl | (rw [← h9]; rfl) | (rw [h9]; rfl)

/-- may a root's place be -/
def plcOk (l : List Int) (i : Nat) : Bool := match l[i]? with | some x => decide (2 ≤ x) && decide (x < 128) && !decide (x ∈ l.take i) | none => false
def rootOk (l : List Int) : Bool := decide (1 ≤ l.length) && decide (l.length ≤ 100) && (List.range l.length).all (plcOk l)
def rootB (l : List Int) : List UInt8 := 82 :: b8 l.length :: l.map b8
def rootS (l : List Int) : List UInt8 × Int := if rootOk l = true then (sealB (rootB l), 0) else (zer128, 11)

theorem rootS_long {l : List Int} (h : l.length < 1 ∨ 100 < l.length) : rootS l = (zer128, 11) := by
  unfold rootS rootOk
  rw [if_neg]
  simp only [Bool.and_eq_true, decide_eq_true_eq]
  omega
theorem rootS_bad {l : List Int} {k : Nat} (hk : k < l.length) (h : plcOk l k = false) : rootS l = (zer128, 11) := by
  unfold rootS rootOk
  rw [if_neg]
  simp only [Bool.and_eq_true, List.all_eq_true, List.mem_range, decide_eq_true_eq]
  rintro ⟨-, h2⟩
  rw [h2 k hk] at h
  cases h
theorem rootS_good {l : List Int} (h1 : 1 ≤ l.length) (h2 : l.length ≤ 100) (h : ∀ t, t < l.length → plcOk l t = true) : rootS l = (sealB (rootB l), 0) := by
  unfold rootS rootOk
  rw [if_pos]
  simp only [Bool.and_eq_true, List.all_eq_true, List.mem_range, decide_eq_true_eq]
  exact ⟨⟨h1, h2⟩, fun t ht => h t ht⟩
theorem root_next {l : List Int} {k : Nat} {x : Int} {c d : UInt8} (hx : l[k]? = some x) : (c :: d :: (l.take k).map b8).flatMap encU ++ [b8 x].flatMap encU = (c :: d :: (l.take (k + 1)).map b8).flatMap encU := by
  rw [List.take_add_one, hx]
  simp
theorem sl_takeI {w : World} {b o c L k : Nat} {l : List Int} (hs : Sl w 1 encI (.slice (some ⟨b, o, none⟩) L c) l) (hk : k ≤ l.length) : Sl w 1 encI (.slice (some ⟨b, o, none⟩) k c) (l.take k) := by
  have hlk : (l.take k).length = k := by simp; omega
  rcases hs with ⟨h, -⟩ | ⟨a, cap, h, h1, h2, h3, h4⟩
  · cases h
  · simp only [Value.slice.injEq, Option.some.injEq] at h
    obtain ⟨rfl, rfl, rfl⟩ := h
    refine .inr ⟨_, c, by rw [hlk], by rw [hlk]; omega, h2, fun _ => rfl, fun i x hx => h4 i x ?_⟩
    rw [List.getElem?_take] at hx
    split at hx
    · exact hx
    · cases hx

set_option maxRecDepth 100000 in
set_option maxHeartbeats 2000000 in
theorem Root_any (l : List Int) (v : Value) (w : World) (hs : Sl w 1 encI v l) (hl : l.length ≤ 1000000) :
    Calls Try.prog 29 #[v] w fun r w' => r = .returned (.tuple #[.agg (rowU (rootS l).1), .int .i64 (rootS l).2]) ∧ Below w.heap.size w w' := by
  obtain ⟨i0, hi, hz0, hz1, hz2⟩ := infoU8_parts
  obtain ⟨n₀, hn₀⟩ : ∃ n, w.heap.size = n := ⟨_, rfl⟩
  have g1 := World.alloc_heap_new w (.cells Try.zeroCells43 43)
  rw [hn₀] at g1
  have s1 := (Kept.alloc 0 w (.cells Try.zeroCells43 43)).sl hs
  have B1 : Below n₀ w (w.alloc (.cells Try.zeroCells43 43)) := by rw [← hn₀]; exact (Below.refl _ w).alloc (Nat.le_refl _) _
  obtain ⟨p, cap, rfl, -⟩ := hs.shape
  obtain ⟨W1, hW1⟩ : ∃ W : World, W = w.alloc (.cells Try.zeroCells43 43) := ⟨_, rfl⟩
  rw [← hW1] at g1 s1 B1
  by_cases hbad : l.length < 1 ∨ 100 < l.length
  · have hres := rootS_long hbad
    have hi7 : (Try.prog.info? 43).map (·.size) = some (Try.zeroCells43).size := by kernel_rfl
    have ht1 : W1.there n₀ 0 (Try.zeroCells43).size := there_blk g1 rfl
    have u1 := (Upd.refl g1).setCells (Try.zeroCells43).toList rfl
    have BZ := u1.below B1 (Nat.le_refl _)
    have u2 := u1.here
    rw [Array.toArray_toList] at u2
    clear u1
    replace u2 := hid u2
    replace BZ := hid BZ
    replace hres := hid hres
    clear s1 hs
    rcases (show l.length < 1 ∨ (¬ l.length < 1 ∧ 100 < l.length) by omega) with h1 | ⟨h1, h2⟩
    · have h1i : (l.length : Int) < 1 := by omega
      go_enter Try.func29, Try.ntmps29
      go_upto_region 1 with (fail)
      rw [← hW1]
      clear hW1
      go_wp2_with (refine wpList_store_mid rfl 43 _ _ rfl n₀ 0 (Try.zeroCells43) rfl rfl ht1 hi7 (by kernel_rfl) ?_)
      exact outRowTmp (ty := 43) rfl u2.out rfl rfl rfl (by kernel_rfl) hi7 ⟨by rw [hres.out]; show Ending.returned (.tuple #[.agg Try.zeroCells43, .int .i64 11]) = _; rw [zer128_row], hn₀ ▸ BZ.out⟩
    · have h1i : ¬ (l.length : Int) < 1 := by omega
      have h2i : (100 : Int) < (l.length : Int) := by omega
      go_enter Try.func29, Try.ntmps29
      go_upto_region 1 with (fail)
      rw [← hW1]
      clear hW1
      go_wp2_with (refine wpList_store_mid rfl 43 _ _ rfl n₀ 0 (Try.zeroCells43) rfl rfl ht1 hi7 (by kernel_rfl) ?_)
      exact outRowTmp (ty := 43) rfl u2.out rfl rfl rfl (by kernel_rfl) hi7 ⟨by rw [hres.out]; show Ending.returned (.tuple #[.agg Try.zeroCells43, .int .i64 11]) = _; rw [zer128_row], hn₀ ▸ BZ.out⟩
  · have hl0 : l ≠ [] := by rintro rfl; simp at hbad
    obtain ⟨b, o, cap', he, -, -, -⟩ := hs.open hl0
    obtain ⟨rfl, -, rfl⟩ := Value.slice.inj he
    obtain ⟨res, hres⟩ : ∃ x, rootS l = x := ⟨_, rfl⟩
    rw [hres]
    obtain ⟨L, hL⟩ : ∃ L, l.length = L := ⟨_, rfl⟩
    rw [hL] at s1 hs hbad he ⊢
    have hl1 : 1 ≤ L := by omega
    have hl3 : L ≤ 100 := by omega
    have h1i : ¬ (L : Int) < 1 := by omega
    have h2i : ¬ (100 : Int) < (L : Int) := by omega
    have hLw : IntKind.u8.wrap (L : Int) = ((b8 L).toNat : Int) := b8_wrap _
    obtain ⟨nb, hnb⟩ : ∃ n, W1.heap.size = n := ⟨_, rfl⟩
    have hnb2 : n₀ < nb := by have := (Array.getElem?_eq_some_iff.1 g1).1; omega
    obtain ⟨LI, hLI⟩ : ∃ o : Obj, o = .cells #[.int .u8 82, .int .u8 (b8 L).toNat] 5 := ⟨_, rfl⟩
    have g3 := (Kept.alloc 0 W1 LI).same _ _ g1 (.inl rfl)
    have B3 := B1.alloc (by omega) LI
    have o3 : (W1.alloc LI).ownsRow (n₀ + 1) 5 1 (.slice (some ⟨nb, 0, none⟩) 2 2) 2 ((([82, b8 L] : List UInt8)).flatMap encU) := by
      rw [hLI, ← hnb]
      exact ⟨rfl, .inr ⟨W1.heap.size, 2, _, rfl, by omega, World.alloc_heap_new W1 _, Nat.le_refl _, by decide, rfl, rfl⟩⟩
    clear g1 B1 s1
    replace hres := hid hres
    go_enter Try.func29, Try.ntmps29
    go_upto_region 1 with (fail)
    rw [← hW1]
    clear hW1
    go_upto_region 4 with (fail)
    (try rw [hnb]); rw [← hLI]
    obtain ⟨W3, hW3⟩ : ∃ W : World, W = W1.alloc LI := ⟨_, rfl⟩
    rw [← hW3] at g3 B3 o3 ⊢
    clear hW3 hLI
    go_wp2_with (fail)
    go_loopw [4, 22] (fun bv iv wr => ∃ k : Nat, k ≤ L ∧ iv = .int .i64 k ∧ (∀ t, t < k → plcOk l t = true) ∧ wr.ownsRow (n₀ + 1) 5 1 bv (2 + k) ((82 :: b8 L :: (l.take k).map b8).flatMap encU) ∧ bv ≠ .slice none 0 0 ∧ wr.heap[n₀]? = some (.cells Try.zeroCells43 43 (0, 0)) ∧ Below n₀ w wr) (fun _ iv _ => L - (RowKit.intOf iv).toNat)
    case atStart => exact ⟨0, Nat.zero_le _, rfl, fun t ht => absurd ht (Nat.not_lt_zero _), o3, by simp, g3, B3⟩
    case round =>
      obtain ⟨k, hkL, rfl, hok, oW, hbn, hn5, B5⟩ := hrel
      clear o3 g3 B3
      obtain ⟨pb, cb, rfl, -, -⟩ := owns_shape oW
      by_cases hlt : k < L
      · have hkI : (k : Int) < (L : Int) := by omega
        obtain ⟨x, hx⟩ : ∃ x, l[k]? = some x := ⟨_, List.getElem?_eq_getElem (by omega)⟩
        have qs := (Kept.of_below (hn₀ ▸ B5 : Below w.heap.size w wr) 0).sl hs
        obtain ⟨b', o', c', he', -, hcm, hc⟩ := qs.open hl0
        rw [hL] at he'
        simp only [Value.slice.injEq, Option.some.injEq, Addr.mk.injEq, and_true] at he'
        obtain ⟨⟨rfl, rfl⟩, -, rfl⟩ := he'
        have hcell := rangeAt_one (hc k x hx)
        rw [Nat.mul_one] at hcell
        have hkc : (k : Int) ≤ (cap : Int) := by
          rcases qs with ⟨h, -⟩ | ⟨a, cc, h, h1, -⟩
          · cases h
          · have := (Value.slice.inj h).2.2
            omega
        have stk := sl_takeI qs (k := k) (by omega)
        have cC := hid (fun W (hW : Sl W 1 encI (.slice (some ⟨b, o, none⟩) k cap) (l.take k)) => Contains_any (l.take k) x _ k cap W hW (by omega))
        have hpk : plcOk l k = (decide (2 ≤ x) && decide (x < 128) && !decide (x ∈ l.take k)) := by unfold plcOk; rw [hx]
        obtain ⟨dm, hdm⟩ : ∃ d, decide (x ∈ l.take k) = d := ⟨_, rfl⟩
        rw [hdm] at cC hpk
        clear hdm qs hc
        replace hpk := hid hpk
        by_cases hrng : 2 ≤ x ∧ x < 128
        · obtain ⟨hx2, hx8⟩ := hrng
          have hx2i : ¬ x < 2 := by omega
          have hx8i : ¬ 128 ≤ x := by omega
          replace stk := hid stk
          replace hx := hid hx
          replace hok := hid hok
          replace hcell := hcell
          go_wp2_with (fail)
          refine (cC.out _ stk.out).mono ?_
          rintro r w6 ⟨rfl, rfl⟩
          cases dm with
          | true =>
            have hres2 : res = (zer128, 11) := by rw [← hres.out]; exact rootS_bad (k := k) (by omega) (by rw [hpk.out]; simp)
            clear hres oW cC hcell hpk stk hok hx
            have hres := hres2
            clear hres2
            have hi7 : (Try.prog.info? 43).map (·.size) = some (Try.zeroCells43).size := by kernel_rfl
            have ht1 : w6.there n₀ 0 (Try.zeroCells43).size := there_blk hn5 rfl
            have u1 := (Upd.refl hn5).setCells (Try.zeroCells43).toList rfl
            have BZ := u1.below B5 (Nat.le_refl _)
            have u2 := u1.here
            rw [Array.toArray_toList] at u2
            clear u1
            replace u2 := hid u2
            replace BZ := hid BZ
            replace hres := hid hres
            go_wp2_with (refine wpList_store_mid rfl 43 _ _ rfl n₀ 0 (Try.zeroCells43) rfl rfl ht1 hi7 (by kernel_rfl) ?_)
            exact outRowTmp (ty := 43) rfl u2.out rfl rfl rfl (by kernel_rfl) hi7 ⟨by rw [hres.out]; show Ending.returned (.tuple #[.agg Try.zeroCells43, .int .i64 11]) = _; rw [zer128_row], hn₀ ▸ BZ.out⟩
          | false =>
            have hok2 : ∀ t, t < k + 1 → plcOk l t = true := fun t ht => by
              by_cases e : t = k
              · rw [e, hpk.out]; simp [hx2, hx8]
              · exact hok.out t (by omega)
            have hxw : IntKind.u8.wrap x = ((b8 x).toNat : Int) := b8_wrap _
            clear cC hcell hpk stk hok
            replace hok2 := hid hok2
            obtain ⟨LX, hLX⟩ : ∃ o : Obj, o = .cells #[.int .u8 (b8 x).toNat] 5 := ⟨_, rfl⟩
            have oL := (Kept.alloc 0 w6 LX).owns oW
            have hnL := (Kept.alloc 0 w6 LX).same _ _ hn5 (.inl rfl)
            have BL := B5.alloc (by have := (Array.getElem?_eq_some_iff.1 hn5).1; omega) LX
            have sL : Sl (w6.alloc LX) 1 encU (.slice (some ⟨w6.heap.size, 0, none⟩) 1 1) [b8 x] := by rw [hLX]; exact slU1 w6 (b8 x) _ _ rfl
            have hsz : n₀ + 1 ≤ (w6.alloc LX).heap.size := by have := (Array.getElem?_eq_some_iff.1 hnL).1; omega
            clear oW hn5 B5
            go_wp2_with (at_builtin; go_must (rw [← hLX]; refine wpList_append_sl rfl _ _ 54 rfl (n₀ + 1) 5 i0 (.int .u8 0) 1 1 Try.underlying54 hi hz0 hz1 hz2 rfl (by decide) _ _ _ rfl oL encU _ [b8 x] rfl sL (encU_enc _) (by unfold maxLen; simp only [List.length_singleton]; omega) (by simp only [List.length_singleton]; omega) hsz ?_; intro v7 w7 o7 hg7 n7))
            have hn7 := grown_blkI oL hg7 (show n₀ < n₀ + 1 by omega) hnL
            have B7 := BL.grown hg7 (by omega) (fun j e9 => by have := own_baseI oL e9; omega)
            have hn8 : v7 ≠ .slice none 0 0 := fun e9 => hbn (n7.1 e9).1
            have o8 : w7.ownsRow (n₀ + 1) 5 1 v7 (2 + (k + 1)) ((82 :: b8 L :: (l.take (k + 1)).map b8).flatMap encU) := by rw [← root_next hx.out]; exact o7
            clear o7 hg7 n7 oL hnL BL sL hLX hsz
            replace o8 := hid o8
            replace hn7 := hid hn7
            replace B7 := hid B7
            replace hn8 := hid hn8
            go_wp2_with (fail)
            refine ⟨?_, ?_⟩
            · first | exact ⟨k + 1, by omega, by go_num, hok2.out, o8.out, hn8.out, hn7.out, B7.out⟩ | ((repeat apply Exists.intro); refine ⟨?_, rfl⟩; exact ⟨k + 1, by omega, by go_num, hok2.out, o8.out, hn8.out, hn7.out, B7.out⟩)
            · simp [RowKit.intOf]; omega
        · have hres2 : res = (zer128, 11) := by
            rw [← hres.out]
            refine rootS_bad (k := k) (by omega) ?_
            rw [hpk.out, Bool.and_eq_false_iff]
            left
            rw [Bool.and_eq_false_iff, decide_eq_false_iff_not, decide_eq_false_iff_not]
            omega
          clear hres oW cC hpk stk hok hx
          have hres := hres2
          clear hres2
          have hi7 : (Try.prog.info? 43).map (·.size) = some (Try.zeroCells43).size := by kernel_rfl
          have ht1 : wr.there n₀ 0 (Try.zeroCells43).size := there_blk hn5 rfl
          have u1 := (Upd.refl hn5).setCells (Try.zeroCells43).toList rfl
          have BZ := u1.below B5 (Nat.le_refl _)
          have u2 := u1.here
          rw [Array.toArray_toList] at u2
          clear u1
          replace u2 := hid u2
          replace BZ := hid BZ
          replace hres := hid hres
          rcases (show x < 2 ∨ (¬ x < 2 ∧ 128 ≤ x) by omega) with h1 | ⟨h1, h2⟩
          · go_wp2_with (refine wpList_store_mid rfl 43 _ _ rfl n₀ 0 (Try.zeroCells43) rfl rfl ht1 hi7 (by kernel_rfl) ?_)
            exact outRowTmp (ty := 43) rfl u2.out rfl rfl rfl (by kernel_rfl) hi7 ⟨by rw [hres.out]; show Ending.returned (.tuple #[.agg Try.zeroCells43, .int .i64 11]) = _; rw [zer128_row], hn₀ ▸ BZ.out⟩
          · go_wp2_with (refine wpList_store_mid rfl 43 _ _ rfl n₀ 0 (Try.zeroCells43) rfl rfl ht1 hi7 (by kernel_rfl) ?_)
            exact outRowTmp (ty := 43) rfl u2.out rfl rfl rfl (by kernel_rfl) hi7 ⟨by rw [hres.out]; show Ending.returned (.tuple #[.agg Try.zeroCells43, .int .i64 11]) = _; rw [zer128_row], hn₀ ▸ BZ.out⟩
      · obtain rfl : k = L := by omega
        have hres2 : res = (sealB (rootB l), 0) := by rw [← hres.out]; exact rootS_good (by omega) (by omega) (by rw [hL]; exact hok)
        clear hres
        have hres := hid hres2
        clear hres2
        rw [show l.take k = l by rw [← hL]; exact List.take_length] at oW
        have hen : 82 :: b8 k :: l.map b8 = rootB l := by unfold rootB; rw [hL]
        have hel : (rootB l).length = 2 + k := by unfold rootB; rw [List.length_cons, List.length_cons, List.length_map, hL]; omega
        rw [hen, ← hel] at oW
        have sE := sl_of_owns (enc := encU) (fun _ _ => rfl) oW
        obtain ⟨b6, f6, c6, h61, h62, h63, h64⟩ := sE.open (by unfold rootB; simp)
        rw [hel] at h61
        obtain ⟨rfl, -, rfl⟩ := Value.slice.inj h61
        rw [hel] at sE
        have cS := hid (sealed_any (rootB l) _ _ _ wr sE (by omega))
        obtain ⟨OB, hOB⟩ : ∃ x, sealB (rootB l) = x := ⟨_, rfl⟩
        have hO3 : OB.length = 128 := by rw [← hOB]; exact sealB_len (by omega)
        rw [hOB] at cS hres
        clear oW sE h64 hen hok
        go_wp2_with (fail)
        refine cS.out.mono ?_
        rintro e w9 ⟨rfl, b9⟩
        have g9 := (Kept.of_below b9 0).same _ _ hn5 (.inl rfl)
        have B9 := B5.trans (b9.mono (by have := B5.size; omega))
        clear cS hn5 B5 b9
        have hi7 : (Try.prog.info? 43).map (·.size) = some (rowU OB).size := by rw [rowU_size, hO3]; kernel_rfl
        have ht7 : w9.there n₀ 0 (rowU OB).size := there_blk g9 (by rw [rowU_size, hO3]; kernel_rfl)
        have u8 := (Upd.refl g9).setCells (rowU OB).toList (by rw [Array.length_toList, rowU_size, hO3]; kernel_rfl)
        have BZ := u8.below B9 (Nat.le_refl _)
        have u2 := u8.here
        rw [Array.toArray_toList] at u2
        clear u8 g9 B9
        replace u2 := hid u2
        replace BZ := hid BZ
        go_wp2_with (refine wpList_store_mid rfl 43 _ _ rfl n₀ 0 (rowU OB) rfl rfl ht7 hi7 (one_rowU _) ?_)
        exact outRowTmp (ty := 43) rfl u2.out rfl rfl rfl (by kernel_rfl) hi7 ⟨by rw [hres.out]; show Ending.returned (.tuple #[.agg (rowU OB), .int .i64 0]) = _; rfl, hn₀ ▸ BZ.out⟩
end Go.Proofs.Ytomgjapjeckokaa
