/- The walks of slices.Compare and slices.Clone at ints; which of two ways is better. The walks of badness and of the document's: how bad a line is, its demerits. -/
import Derived.Test.YtempicociampoaaDoorJ14
import Derived.Test.YtempicociampoaaDoorJ8
import Derived.Lib.LazyBuf
import Derived.Test.YtempicociampoaaDoorJ12
namespace Go.Proofs.YtempicociampoaaDoor
open Go.RowKit Go.Shelf Go.Lib

theorem infoN_parts : ∃ i0, Tryd.prog.info? 3 = some i0 ∧ i0.zero = some (.int .i64 0) ∧ i0.size = 1 ∧ i0.bytes = 8 := by
  have h : (Tryd.prog.info? 3).map (fun i => (i.zero, i.size, i.bytes)) = some (some (.int .i64 0), 1, 8) := by kernel_rfl
  obtain ⟨i0, h1, h2⟩ := Option.map_eq_some_iff.1 h
  simp only [Prod.mk.injEq] at h2
  exact ⟨i0, h1, h2.1, h2.2.1, h2.2.2⟩
set_option maxHeartbeats 400000 in
theorem nan_any (x : Int) (w : World) : Calls Tryd.prog 83 #[.int .i64 x] w fun e w' => e = .returned (.bool false) ∧ w' = w := by
  go_enter Tryd.func83, Tryd.ntmps83
  go_wp2_with (fail)
  go_ret
  exact ⟨by simp, rfl⟩
set_option maxHeartbeats 400000 in
theorem ccmp_any (x y : Int) (w : World) : Calls Tryd.prog 81 #[.int .i64 x, .int .i64 y] w fun e w' => e = .returned (.int .i64 (if x < y then -1 else if y < x then 1 else 0)) ∧ w' = w := by
  have n1 := hid (fun W => nan_any x W)
  have n2 := hid (fun W => nan_any y W)
  obtain ⟨r, hr⟩ : ∃ r : Int, (if x < y then -1 else if y < x then 1 else 0) = r := ⟨_, rfl⟩
  rw [hr]
  go_enter Tryd.func81, Tryd.ntmps81
  go_wp2_with (fail)
  refine (n1.out _).mono ?_
  rintro e w1 ⟨rfl, rfl⟩
  go_wp2_with (fail)
  refine (n2.out _).mono ?_
  rintro e w2 ⟨rfl, rfl⟩
  by_cases h1 : x < y
  · rw [if_pos h1] at hr
    replace hr := hid hr
    go_wp2_with (fail)
    go_ret
    exact ⟨ret_int hr.out, rfl⟩
  · rw [if_neg h1] at hr
    by_cases h2 : y < x
    · rw [if_pos h2] at hr
      replace hr := hid hr
      go_wp2_with (fail)
      go_ret
      exact ⟨ret_int hr.out, rfl⟩
    · rw [if_neg h2] at hr
      replace hr := hid hr
      go_wp2_with (fail)
      go_ret
      exact ⟨ret_int hr.out, rfl⟩
set_option maxRecDepth 100000 in
set_option maxHeartbeats 1000000 in
theorem Compare_any (a b : List Int) (va vb : Value) (w : World) (ha : Sl w 1 encI va a) (hb : Sl w 1 encI vb b) :
    Calls Tryd.prog 74 #[va, vb] w fun e w' => e = .returned (.int .i64 (cmpL a b)) ∧ w' = w := by
  obtain ⟨pa, ca, rfl, hla⟩ := ha.shape
  obtain ⟨pb, cb, rfl, hlb⟩ := hb.shape
  unfold maxLen at hla hlb
  have hla2 : a.length ≤ 9223372036854775807 := by omega
  obtain ⟨LA, hLA⟩ : ∃ x, a.length = x := ⟨_, rfl⟩
  obtain ⟨LB, hLB⟩ : ∃ x, b.length = x := ⟨_, rfl⟩
  obtain ⟨r, hr⟩ : ∃ x, cmpL a b = x := ⟨_, rfl⟩
  rw [hLA] at ha hla2 ⊢
  rw [hLB] at hb ⊢
  rw [hr]
  replace hLA := hid hLA
  replace hLB := hid hLB
  replace hr := hid hr
  replace ha := hid ha
  replace hb := hid hb
  clear hla hlb
  go_enter Tryd.func74, Tryd.ntmps74
  go_wp2_with (fail)
  go_loopw [11] (fun iv wr => ∃ k : Nat, k ≤ LA ∧ iv = .int .i64 k ∧ cmpL (a.drop k) (b.drop k) = r ∧ wr = w) (fun iv _ => LA - (RowKit.intOf iv).toNat)
  case atStart => exact ⟨0, Nat.zero_le _, rfl, hr.out, rfl⟩
  case round =>
    obtain ⟨k, hk, rfl, hc, rfl⟩ := hrel
    by_cases hka : k < LA
    · have hkI : (k : Int) < (LA : Int) := by omega
      obtain ⟨x, hx⟩ : ∃ x, a[k]? = some x := ⟨_, List.getElem?_eq_getElem (by rw [hLA.out]; exact hka)⟩
      obtain ⟨ba, oa, c1, e1, -, -, h1⟩ := ha.out.open (by rintro rfl; simp at hx)
      obtain ⟨rfl, -, rfl⟩ := Value.slice.inj e1
      have cx := rangeAt_one (h1 k x hx)
      rw [Nat.mul_one] at cx
      clear e1 h1
      by_cases hkb : k < LB
      · have hkJ : (k : Int) < (LB : Int) := by omega
        obtain ⟨y, hy⟩ : ∃ y, b[k]? = some y := ⟨_, List.getElem?_eq_getElem (by rw [hLB.out]; exact hkb)⟩
        obtain ⟨bb, ob, c2, e2, -, -, h2⟩ := hb.out.open (by rintro rfl; simp at hy)
        obtain ⟨rfl, -, rfl⟩ := Value.slice.inj e2
        have cy := rangeAt_one (h2 k y hy)
        rw [Nat.mul_one] at cy
        rw [cmpL_at hx hy] at hc
        have cC := hid (fun W => ccmp_any x y W)
        obtain ⟨q, hq⟩ : ∃ q : Int, (if x < y then -1 else if y < x then 1 else 0) = q := ⟨_, rfl⟩
        rw [hq] at cC
        clear e2 h2 hx hy
        by_cases hq0 : q = 0
        · subst hq0
          have hn : cmpL (a.drop (k + 1)) (b.drop (k + 1)) = r := by
            split at hq
            · omega
            · rename_i h3
              rw [if_neg h3] at hc
              split at hq
              · omega
              · rename_i h4
                rwa [if_neg h4] at hc
          replace hn := hid hn
          clear hc hq
          go_wp2_with (fail)
          refine (cC.out _).mono ?_
          rintro e w1 ⟨rfl, rfl⟩
          go_wp2_with (fail)
          exact ⟨⟨k + 1, by omega, by go_num, hn.out, trivial⟩, by simp [RowKit.intOf]; omega⟩
        · have hn : q = r := by
            split at hq
            · rename_i h3; rw [if_pos h3] at hc; omega
            · rename_i h3
              rw [if_neg h3] at hc
              split at hq
              · rename_i h4; rw [if_pos h4] at hc; omega
              · omega
          have hqb : (q == 0) = false := by simpa using hq0
          clear hc hq
          subst hn
          go_wp2_with (fail)
          refine (cC.out _).mono ?_
          rintro e w1 ⟨rfl, rfl⟩
          go_wp2_with (fail)
          go_ret
          exact ⟨rfl, rfl⟩
      · have hkJ : (LB : Int) ≤ (k : Int) := by omega
        rw [cmpL_long (by rw [hLA.out]; exact hka) (by rw [hLB.out]; omega)] at hc
        subst hc
        clear hx
        go_wp2_with (fail)
        go_ret
        exact ⟨rfl, rfl⟩
    · obtain rfl : k = LA := by omega
      rw [cmpL_end (by rw [hLA.out]; exact Nat.le_refl _), hLB.out] at hc
      by_cases hl : k < LB
      · have hlI : (k : Int) < (LB : Int) := by omega
        rw [if_pos hl] at hc
        subst hc
        go_wp2_with (fail)
        go_ret
        exact ⟨rfl, rfl⟩
      · have hlI : ¬ (k : Int) < (LB : Int) := by omega
        rw [if_neg hl] at hc
        subst hc
        go_wp2_with (fail)
        go_ret
        exact ⟨rfl, rfl⟩
set_option maxRecDepth 100000 in
set_option maxHeartbeats 1000000 in
theorem cloneI_any (l : List Int) (v : Value) (w : World) (hs : Sl w 1 encI v l) (hn : l.length ≤ 1000000) :
    Calls Tryd.prog 73 #[v] w fun e w' => ∃ v', e = .returned v' ∧ w'.ownsRow w.heap.size 3 1 v' l.length (l.flatMap encI) ∧ Below w.heap.size w w' := by
  obtain ⟨i0, hi, hz0, hz1, hz2⟩ := infoN_parts
  have q22 : ∀ (W : World) (a : Option Addr) (n c n' c' : Nat), (binOp .eql 44 (.slice a n c) (.slice none n' c')).run Tryd.prog W = .ok (.bool a.isNone) W := fun W a n c n' c' => Lib.run_eql_slice_nil W _ _ a n c n' c' Tryd.underlying44
  rcases id hs with ⟨rfl, rfl⟩ | ⟨a, c, rfl, -⟩
  · go_enter Tryd.func73, Tryd.ntmps73
    go_wp2_with (fail)
    go_ret
    exact ⟨_, rfl, World.ownsRow_nil _ _ _ _, Below.refl _ _⟩
  · go_enter Tryd.func73, Tryd.ntmps73
    go_wp2_with (at_builtin; go_must (refine wpList_append_sl rfl _ _ 44 rfl w.heap.size 3 i0 (.int .i64 0) 1 8 Tryd.underlying44 hi hz0 hz1 hz2 rfl (by decide) _ _ _ rfl (World.ownsRow_made w #[] 0 (Nat.le_refl _) (Nat.zero_le _) rfl) encI _ l rfl ((Kept.alloc 0 w _).sl hs) (encI_enc l) (by unfold maxLen; omega) (by omega) (by simp) ?_; intro v1 w1 ho1 hg1 hn1))
    go_ret
    exact ⟨v1, rfl, by simpa using ho1, ((Below.refl _ w).alloc (Nat.le_refl _) _).grown hg1 (by simp) (by intro k hk; simp [Value.ownBlock, Act.eval] at hk; omega)⟩
/-- a way as it lies -/
def wayV (v : Value) (x : Wy) : Array Value := #[v, .int .i64 x.tot, .int .i64 x.ov]
set_option maxRecDepth 100000 in
set_option maxHeartbeats 1000000 in
theorem better_any (x y : Wy) (vx vy : Value) (w : World) (hx : Sl w 1 encI vx x.br) (hy : Sl w 1 encI vy y.br) :
    Calls Tryd.prog 62 #[.agg (wayV vx x), .agg (wayV vy y)] w fun e w' => e = .returned (.bool (betterW x y)) ∧ Below w.heap.size w w' := by
  obtain ⟨n₀, hn₀⟩ : ∃ n, w.heap.size = n := ⟨_, rfl⟩
  obtain ⟨px, cx, rfl, -⟩ := hx.shape
  obtain ⟨py, cy, rfl, -⟩ := hy.shape
  unfold wayV
  have cC := hid (fun (W : World) (h : Below w.heap.size w W) => Compare_any x.br y.br _ _ W ((Kept.of_below h 0).sl hx) ((Kept.of_below h 0).sl hy))
  have hB := hid (((Below.refl w.heap.size w).alloc (Nat.le_refl _) (.cells #[.slice px x.br.length cx, .int .i64 x.tot, .int .i64 x.ov] 77)).alloc (by simp) (.cells #[.slice py y.br.length cy, .int .i64 y.tot, .int .i64 y.ov] 77))
  obtain ⟨r, hr⟩ : ∃ r, betterW x y = r := ⟨_, rfl⟩
  have hr2 : (if x.tot = y.tot then lessI x.br y.br else decide (x.tot < y.tot)) = r := hr
  rw [lessI_cmp] at hr2
  rw [hr]
  clear hr
  by_cases he : x.tot = y.tot
  · rw [if_pos he] at hr2
    rw [he] at hB ⊢
    replace hr2 := hid hr2
    clear he
    go_enter Tryd.func62, Tryd.ntmps62
    go_wp2_with (fail)
    refine (cC.out _ hB.out).mono ?_
    rintro e w1 ⟨rfl, rfl⟩
    obtain ⟨q, hq⟩ : ∃ q, cmpL x.br y.br = q := ⟨_, rfl⟩
    have hr3 := hr2.out
    rw [hq] at hr3 ⊢
    clear hq hr2
    subst hr3
    go_wp2_with (fail)
    go_ret
    exact ⟨rfl, hn₀ ▸ hB.out⟩
  · rw [if_neg he] at hr2
    have heb : (x.tot == y.tot) = false := by simpa using he
    subst hr2
    go_enter Tryd.func62, Tryd.ntmps62
    go_wp2_with (fail)
    go_ret
    exact ⟨rfl, hn₀ ▸ hB.out⟩
end Go.Proofs.YtempicociampoaaDoor
namespace Go.Proofs.YtempicociampoaaDoor
open Go.RowKit

set_option maxHeartbeats 400000 in
theorem bcut_any (n lo hi : Int) (w : World) : Calls Tryd.prog 75 #[.int .i64 n, .int .i64 lo, .int .i64 hi] w fun e w' => e = .returned (.int .i64 (cutI n lo hi)) ∧ w' = w := by
  go_enter Tryd.func75, Tryd.ntmps75
  go_wp2_with (fail)
  all_goals first
    | (go_ret; exact ⟨ret_int (by unfold cutI; omega), rfl⟩)
    | (rename_i ha; (first | rw [if_pos h] at ha | rw [if_neg (by omega)] at ha); go_ret; exact ⟨ret_int (by unfold cutI; omega), rfl⟩)
/-- products of three numbers that are not far -/
theorem cube_bd {n : Int} (h1 : -10000 ≤ n) (h2 : n ≤ 10000) : (-100000000 ≤ n * n ∧ n * n ≤ 100000000) ∧ -1000000000000 ≤ n * n * n ∧ n * n * n ≤ 1000000000000 := by
  have a := mulB_bd (A := 10000) (B := 10000) h1 h2 h1 h2
  have b := mulB_bd (A := 100000000) (B := 10000) (a := n * n) (by omega) (by omega) h1 h2
  exact ⟨⟨by omega, by omega⟩, by omega, by omega⟩
set_option maxHeartbeats 400000 in
theorem cube_any (n : Int) (w : World) (h1 : -10000 ≤ n) (h2 : n ≤ 10000) : Calls Tryd.prog 76 #[.int .i64 n] w fun e w' => e = .returned (.int .i64 (n * n * n)) ∧ w' = w := by
  obtain ⟨⟨a1, a2⟩, b1, b2⟩ := cube_bd h1 h2
  have w1 : IntKind.i64.wrap (n * n) = n * n := by rw [IntKind.wrap_i64]; omega
  have w2 : IntKind.i64.wrap (n * n * n) = n * n * n := by rw [IntKind.wrap_i64]; omega
  go_enter Tryd.func76, Tryd.ntmps76
  go_wp2_with (fail)
  go_ret
  exact ⟨rfl, rfl⟩
theorem ret_ib {a b : Int} {c : Bool} (h : a = b) : Ending.returned (.tuple #[.int .i64 a, .bool c]) = Ending.returned (.tuple #[.int .i64 b, .bool c]) := by rw [h]
theorem badO_zero (y z : Int) : badO 0 y z = (0, true) := by unfold badO; rw [if_pos rfl]
theorem badO_full {d z : Int} (h : 0 < d) : badO d 0 z = (10000, true) := by unfold badO; rw [if_neg (by omega), if_pos h, if_pos rfl]
theorem badO_up {d y z : Int} (h : 0 < d) (hy : y ≠ 0) : badO d y z = (min ((100 * (d * d * d)).tdiv (y * y * y)) 10000, true) := by unfold badO; rw [if_neg (by omega), if_pos h, if_neg hy]
theorem badO_no {d y z : Int} (h : d < 0) (hz : z < -d) : badO d y z = (0, false) := by unfold badO; rw [if_neg (by omega), if_neg (by omega), if_pos hz]
theorem badO_down {d y z : Int} (h : d < 0) (hz : ¬ z < -d) : badO d y z = ((100 * (-d * -d * -d)).tdiv (z * z * z), true) := by unfold badO; rw [if_neg (by omega), if_neg (by omega), if_neg hz]
theorem cube_pos {n : Int} (h : 0 < n) : 0 < n * n * n := Int.mul_pos (Int.mul_pos h h) h
set_option maxRecDepth 100000 in
set_option maxHeartbeats 1000000 in
theorem bOf_any (d y z : Int) (w : World) : Calls Tryd.prog 63 #[.int .i64 d, .int .i64 y, .int .i64 z] w fun e w' => e = .returned (.tuple #[.int .i64 (badS d y z).1, .bool (badS d y z).2]) ∧ w' = w := by
  obtain ⟨d1, d2⟩ := cutI_bd (n := d) (lo := -10000) (hi := 10000) (by omega)
  obtain ⟨y1, y2⟩ := cutI_bd (n := y) (lo := 0) (hi := 10000) (by omega)
  obtain ⟨z1, z2⟩ := cutI_bd (n := z) (lo := 0) (hi := 10000) (by omega)
  have hS : badS d y z = badO (cutI d (-10000) 10000) (cutI y 0 10000) (cutI z 0 10000) := rfl
  have c1 := fun W => bcut_any d (-10000) 10000 W
  have c2 := fun W => bcut_any y 0 10000 W
  have c3 := fun W => bcut_any z 0 10000 W
  generalize cutI d (-10000) 10000 = D at *
  generalize cutI y 0 10000 = Y at *
  generalize cutI z 0 10000 = Z at *
  replace c1 := hid c1
  replace c2 := hid c2
  replace c3 := hid c3
  obtain ⟨B, hB⟩ : ∃ x, badS d y z = x := ⟨_, rfl⟩
  rw [hB] at hS ⊢
  clear hB
  go_enter Tryd.func63, Tryd.ntmps63
  go_wp2_with (fail)
  refine (c1.out _).mono ?_
  rintro e w1 ⟨rfl, rfl⟩
  go_wp2_with (fail)
  refine (c2.out _).mono ?_
  rintro e w2 ⟨rfl, rfl⟩
  go_wp2_with (fail)
  refine (c3.out _).mono ?_
  rintro e w3 ⟨rfl, rfl⟩
  clear c1 c2 c3
  by_cases h0 : D = 0
  · subst h0
    rw [badO_zero] at hS
    replace hS := hid hS
    go_wp2_with (fail)
    go_ret2
    exact ⟨by rw [hS.out]; rfl, rfl⟩
  · have h0b : (D == 0) = false := by simpa using h0
    by_cases hp : 0 < D
    · by_cases hy : Y = 0
      · subst hy
        rw [badO_full hp] at hS
        replace hS := hid hS
        go_wp2_with (fail)
        go_ret2
        exact ⟨by rw [hS.out]; rfl, rfl⟩
      · have hyb : (Y == 0) = false := by simpa using hy
        rw [badO_up hp hy] at hS
        have k1 := hid (fun W => cube_any D W d1 d2)
        have k2 := hid (fun W => cube_any Y W (by omega) y2)
        obtain ⟨-, b1, b2⟩ := cube_bd d1 d2
        have b3 := cube_pos (show 0 < Y by omega)
        generalize D * D * D = C at *
        generalize Y * Y * Y = E at *
        have w1 : IntKind.i64.wrap (100 * C) = 100 * C := by rw [IntKind.wrap_i64]; omega
        have hE : ¬ E = 0 := by omega
        have hEb : (E == 0) = false := by simpa using hE
        have hXb := Int.natAbs_tdiv_le_natAbs (100 * C) E
        obtain ⟨X, hX⟩ : ∃ x, (100 * C).tdiv E = x := ⟨_, rfl⟩
        rw [hX] at hXb hS
        have hXw : IntKind.i64.wrap X = X := by rw [IntKind.wrap_i64]; omega
        replace hS := hid hS
        go_wp2_with (fail)
        refine (k1.out _).mono ?_
        rintro e w4 ⟨rfl, rfl⟩
        go_wp2_with (fail)
        refine (k2.out _).mono ?_
        rintro e w5 ⟨rfl, rfl⟩
        go_wp2_with (fail)
        all_goals
          go_ret2
          exact ⟨by rw [hS.out]; exact ret_ib (by omega), rfl⟩
    · have hn : D < 0 := by omega
      have w1 : IntKind.i64.wrap (-D) = -D := by rw [IntKind.wrap_i64]; omega
      by_cases hz : Z < -D
      · rw [badO_no hn hz] at hS
        replace hS := hid hS
        go_wp2_with (fail)
        go_ret2
        exact ⟨by rw [hS.out]; rfl, rfl⟩
      · rw [badO_down hn hz] at hS
        have k1 := hid (fun W => cube_any (-D) W (by omega) (by omega))
        have k2 := hid (fun W => cube_any Z W (by omega) z2)
        obtain ⟨-, b1, b2⟩ := cube_bd (show -10000 ≤ -D by omega) (show -D ≤ 10000 by omega)
        have b3 := cube_pos (show 0 < Z by omega)
        generalize -D * -D * -D = C at *
        generalize Z * Z * Z = E at *
        have w2 : IntKind.i64.wrap (100 * C) = 100 * C := by rw [IntKind.wrap_i64]; omega
        have hE : ¬ E = 0 := by omega
        have hEb : (E == 0) = false := by simpa using hE
        have hXb := Int.natAbs_tdiv_le_natAbs (100 * C) E
        obtain ⟨X, hX⟩ : ∃ x, (100 * C).tdiv E = x := ⟨_, rfl⟩
        rw [hX] at hXb hS
        have hXw : IntKind.i64.wrap X = X := by rw [IntKind.wrap_i64]; omega
        replace hS := hid hS
        go_wp2_with (fail)
        refine (k1.out _).mono ?_
        rintro e w4 ⟨rfl, rfl⟩
        go_wp2_with (fail)
        refine (k2.out _).mono ?_
        rintro e w5 ⟨rfl, rfl⟩
        go_wp2_with (fail)
        go_ret2
        exact ⟨by rw [hS.out]; exact ret_ib rfl, rfl⟩
set_option maxRecDepth 100000 in
set_option maxHeartbeats 1000000 in
theorem bDem_any (bad cost : Int) (tw : Bool) (w : World) : Calls Tryd.prog 64 #[.int .i64 bad, .int .i64 cost, .bool tw] w fun e w' => e = .returned (.int .i64 (demS bad cost tw)) ∧ w' = w := by
  obtain ⟨d1, d2⟩ := cutI_bd (n := bad) (lo := 0) (hi := 10000) (by omega)
  obtain ⟨y1, y2⟩ := cutI_bd (n := cost) (lo := 0) (hi := 10000) (by omega)
  have hS : demS bad cost tw = (10 + cutI bad 0 10000) * (10 + cutI bad 0 10000) + cutI cost 0 10000 * cutI cost 0 10000 + if tw = true then 3000 else 0 := rfl
  have c1 := fun W => bcut_any bad 0 10000 W
  have c2 := fun W => bcut_any cost 0 10000 W
  generalize cutI bad 0 10000 = D at *
  generalize cutI cost 0 10000 = Y at *
  replace c1 := hid c1
  replace c2 := hid c2
  have a1 := mulB_bd (a := 10 + D) (b := 10 + D) (A := 10010) (B := 10010) (by omega) (by omega) (by omega) (by omega)
  have a2 := mulB_bd (a := Y) (b := Y) (A := 10000) (B := 10000) (by omega) (by omega) (by omega) (by omega)
  obtain ⟨S, hSS⟩ : ∃ x, 10 + D = x := ⟨_, rfl⟩
  have e1 : IntKind.i64.wrap (10 + D) = S := by rw [hSS, IntKind.wrap_i64]; omega
  rw [hSS] at a1 hS
  obtain ⟨S2, hS2⟩ : ∃ x, S * S = x := ⟨_, rfl⟩
  obtain ⟨Y2, hY2⟩ : ∃ x, Y * Y = x := ⟨_, rfl⟩
  have e2 : IntKind.i64.wrap (S * S) = S2 := by rw [hS2, IntKind.wrap_i64]; omega
  have e3 : IntKind.i64.wrap (Y * Y) = Y2 := by rw [hY2, IntKind.wrap_i64]; omega
  have e4 : IntKind.i64.wrap (S2 + Y2) = S2 + Y2 := by rw [IntKind.wrap_i64]; omega
  have e5 : IntKind.i64.wrap (S2 + Y2 + 3000) = S2 + Y2 + 3000 := by rw [IntKind.wrap_i64]; omega
  rw [hS2, hY2] at hS
  clear hSS hS2 hY2 a1 a2
  rw [hS]
  clear hS
  go_enter Tryd.func64, Tryd.ntmps64
  go_wp2_with (fail)
  refine (c1.out _).mono ?_
  rintro e w1 ⟨rfl, rfl⟩
  go_wp2_with (fail)
  refine (c2.out _).mono ?_
  rintro e w2 ⟨rfl, rfl⟩
  cases tw with
  | true =>
    go_wp2_with (fail)
    go_ret
    exact ⟨rfl, rfl⟩
  | false =>
    go_wp2_with (fail)
    go_ret
    exact ⟨ret_int (by simp), rfl⟩
end Go.Proofs.YtempicociampoaaDoor
