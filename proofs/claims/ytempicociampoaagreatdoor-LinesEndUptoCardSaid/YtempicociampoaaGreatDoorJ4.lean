/- Plain laws of breaks: what a best way is: its lines, one behind the other. The walks of badness and of the document's: how bad a line is, its demerits. -/
import Derived.Test.YtempicociampoaaGreatDoorJ2
namespace Go.Proofs.YtempicociampoaaGreatDoor
open Go.RowKit

def lastI (n : Int) : List Int → Int
 | [] => n
 | b :: r => lastI b r
theorem lastI_snoc (t : Int) : ∀ (br : List Int) (n : Int), lastI n (br ++ [t]) = t
 | [], _ => rfl
 | b :: r, _ => lastI_snoc t r b
/-- lines that may be laid, one behind the other, from a place on -/
def Leg (l : List It) (wd tol : Int) (all : Bool) : Int → List Int → Prop
 | _, [] => True
 | n, b :: r => (0 ≤ b ∧ firstL l n < b.toNat ∧ (all = true ∨ (liS l wd tol n b.toNat).may = true)) ∧ Leg l wd tol all b r
theorem Leg.snoc {l : List It} {wd tol : Int} {all : Bool} {t : Int} : ∀ {br : List Int} {n : Int}, Leg l wd tol all n br → 0 ≤ t → firstL l (lastI n br) < t.toNat → (all = true ∨ (liS l wd tol (lastI n br) t.toNat).may = true) → Leg l wd tol all n (br ++ [t])
 | [], _, _, h0, h1, h2 => ⟨⟨h0, h1, h2⟩, trivial⟩
 | _ :: _, _, h, h0, h1, h2 => ⟨h.1, Leg.snoc h.2 h0 h1 h2⟩
/-- what a way's lines cost, how many are overfull -/
def sumD (l : List It) (wd tol : Int) : Int → List Int → Int
 | _, [] => 0
 | n, b :: r => (liS l wd tol n b.toNat).dem + sumD l wd tol b r
def sumO (l : List It) (wd tol : Int) : Int → List Int → Int
 | _, [] => 0
 | n, b :: r => (if (liS l wd tol n b.toNat).over = true then 1 else 0) + sumO l wd tol b r
theorem sumD_snoc (l : List It) (wd tol t : Int) : ∀ (br : List Int) (n : Int), sumD l wd tol n (br ++ [t]) = sumD l wd tol n br + (liS l wd tol (lastI n br) t.toNat).dem
 | [], n => by simp [sumD, lastI]
 | b :: r, n => by rw [List.cons_append, sumD, sumD, sumD_snoc l wd tol t r b, lastI]; omega
theorem sumO_snoc (l : List It) (wd tol t : Int) : ∀ (br : List Int) (n : Int), sumO l wd tol n (br ++ [t]) = sumO l wd tol n br + if (liS l wd tol (lastI n br) t.toNat).over = true then 1 else 0
 | [], n => by show _ + 0 = 0 + _; rw [Int.add_zero, Int.zero_add]; rfl
 | b :: r, n => by rw [List.cons_append, sumO, sumO, sumO_snoc l wd tol t r b, lastI]; omega
/-- a way of legal lines from n to t, of the places pl -/
structure Isw (l : List It) (wd tol : Int) (all : Bool) (pl : List Int) (n t : Int) (v : Wy) : Prop where
 leg : Leg l wd tol all n v.br
 last : lastI n v.br = t
 mem : ∀ b ∈ v.br, b ∈ pl
 tot : v.tot = sumD l wd tol n v.br
 ov : v.ov = sumO l wd tol n v.br
theorem Isw.more {l : List It} {wd tol : Int} {all : Bool} {pl : List Int} {n u : Int} {t : Nat} {v : Wy} (h : Isw l wd tol all pl n u v) (ht : (t : Int) ∈ pl) (h1 : firstL l u < t) (h2 : (all || (liS l wd tol u t).may) = true) : Isw l wd tol all pl n t (moreW v (liS l wd tol u t) t) := by
 obtain ⟨a, b, c, d, e⟩ := h
 have e1 : ((t : Int)).toNat = t := by omega
 refine ⟨Leg.snoc a (by omega) (by rw [b, e1]; exact h1) (by rw [b, e1]; simpa using h2), lastI_snoc _ _ _, fun x hx => ?_, ?_, ?_⟩
 ·rcases List.mem_append.1 hx with hx | hx
  ·exact c x hx
  ·obtain rfl := List.mem_singleton.1 hx; exact ht
 ·unfold moreW; rw [sumD_snoc, b, e1, ← d]
 ·unfold moreW; rw [sumO_snoc, b, e1, ← e]
theorem fs_get {fs : List (Option Wy)} {i : Nat} {u : Wy} (hu : fs.getD i none = some u) : fs[i]? = some (some u) := by
 rw [List.getD_eq_getElem?_getD] at hu
 cases hg : fs[i]? with
 | none => rw [hg] at hu; cases hu
 | some y => rw [hg] at hu; exact congrArg some hu
theorem fold_is {l : List It} {wd tol : Int} {all : Bool} {pl : List Int} {fs : List (Option Wy)} {t : Nat} {n : Int} (ht : (t : Int) ∈ pl) (hf : ∀ (i : Nat) (v : Wy), fs[i]? = some (some v) → Isw l wd tol all pl n (pl.getD i 0) v) :
  ∀ (i : Nat) (v : Wy), foldW l wd tol all pl fs t i = some v → Isw l wd tol all pl n t v ∧ v.br ≠ []
 | 0, v, h => by cases h
 | i + 1, v, h => by
  have ih := fold_is (l := l) (wd := wd) (tol := tol) (all := all) (pl := pl) ht hf i
  unfold foldW tryW at h
  split at h
  ·exact ih v h
  ·rename_i u hu
   have hu2 := hf i u (fs_get hu)
   split at h
   ·rename_i hb
    split at h
    ·rename_i hm
     have hn : Isw l wd tol all pl n t (moreW u (liS l wd tol (pl.getD i 0) t) t) ∧ (moreW u (liS l wd tol (pl.getD i 0) t) t).br ≠ [] := ⟨hu2.more ht hb hm, by unfold moreW; simp⟩
     unfold offerW at h
     split at h
     ·cases h; exact hn
     ·rename_i c hc
      split at h
      ·cases h; exact hn
      ·cases h; exact ih _ hc
    ·exact ih v h
   ·exact ih v h
theorem found_is {l : List It} {wd tol : Int} {all : Bool} {pl : List Int} (hpl : ∀ i, 0 < i → i < pl.length → 0 ≤ pl.getD i 0) : ∀ (k : Nat), k < pl.length → ∀ (i : Nat) (v : Wy), (foundW l wd tol all pl k)[i]? = some (some v) → Isw l wd tol all pl (pl.getD 0 0) (pl.getD i 0) v ∧ (0 < i → v.br ≠ [])
 | 0, _, i, v, h => by
  match i, h with
  | 0, h => cases h; exact ⟨⟨trivial, rfl, fun b hb => (by cases hb), rfl, rfl⟩, fun h => by omega⟩
  | i + 1, h => simp [foundW] at h
 | k + 1, hk, i, v, h => by
  have ih := found_is (l := l) (wd := wd) (tol := tol) (all := all) hpl k (by omega)
  rw [foundW] at h
  have hl := found_len l wd tol all pl k
  by_cases hi : i < (foundW l wd tol all pl k).length
  ·rw [List.getElem?_append_left hi] at h
   exact ih i v h
  ·rw [List.getElem?_append_right (by omega)] at h
   cases hj : i - (foundW l wd tol all pl k).length with
   | zero =>
    rw [hj] at h
    obtain rfl : i = k + 1 := by omega
    have h0 := hpl (k + 1) (by omega) hk
    have ht : (((pl.getD (k + 1) 0).toNat : Nat) : Int) = pl.getD (k + 1) 0 := by omega
    have hm : (((pl.getD (k + 1) 0).toNat : Nat) : Int) ∈ pl := by
     rw [ht, List.getD_eq_getElem?_getD, List.getElem?_eq_getElem hk]; exact List.getElem_mem _
    have h9 := fold_is hm (fun i v hv => (ih i v hv).1) _ v (Option.some.inj h)
    rw [ht] at h9
    exact ⟨h9.1, fun _ => h9.2⟩
   | succ j => rw [hj] at h; simp at h
/-- where a line of all is laid, there is a way, if all are taken -/
theorem fold_some {l : List It} {wd tol : Int} {pl : List Int} {fs : List (Option Wy)} {t : Nat} {u : Wy} (h0 : fs[0]? = some (some u)) (hb : firstL l (pl.getD 0 0) < t) : ∀ i, ∃ v, foldW l wd tol true pl fs t (i + 1) = some v
 | 0 => by
  rw [foldW, foldW, List.getD_eq_getElem?_getD (l := fs), h0]
  show ∃ v, tryW l wd tol true (pl.getD 0 0) t (some u) none = some v
  unfold tryW
  dsimp only
  rw [if_pos hb, if_pos (Bool.true_or _)]
  exact ⟨_, rfl⟩
 | i + 1 => by
  obtain ⟨v, ih⟩ := fold_some h0 hb (l := l) (wd := wd) (tol := tol) (pl := pl) (fs := fs) (t := t) i
  rw [foldW, ih]
  unfold tryW
  split
  ·exact ⟨_, rfl⟩
  ·split
   ·split
    ·unfold offerW
     dsimp only
     split <;> exact ⟨_, rfl⟩
    ·exact ⟨_, rfl⟩
   ·exact ⟨_, rfl⟩
theorem found_zero (l : List It) (wd tol : Int) (all : Bool) (pl : List Int) : ∀ k, (foundW l wd tol all pl k)[0]? = some (some ⟨[], 0, 0⟩)
 | 0 => rfl
 | k + 1 => by rw [foundW, List.getElem?_append_left (by rw [found_len]; omega)]; exact found_zero l wd tol all pl k
theorem best_last (l : List It) (wd tol : Int) (all : Bool) (pl : List Int) {k : Nat} (hk : pl.length = k + 2) : bestW l wd tol all pl = foldW l wd tol all pl (foundW l wd tol all pl k) (pl.getD (k + 1) 0).toNat (k + 1) := by
 unfold bestW
 rw [hk, show k + 2 - 1 = k + 1 by omega, foundW, List.getLast?_append]
 rfl
end Go.Proofs.YtempicociampoaaGreatDoor
namespace Go.Proofs.YtempicociampoaaGreatDoor
open Go.RowKit

set_option maxHeartbeats 400000 in
theorem bcut_any (n lo hi : Int) (w : World) : Calls Tryz.prog 116 #[.int .i64 n, .int .i64 lo, .int .i64 hi] w fun e w' => e = .returned (.int .i64 (cutI n lo hi)) ∧ w' = w := by
 go_enter Tryz.func116, Tryz.ntmps116
 go_wp2_with (fail)
 all_goals first
  | (go_ret; exact ⟨ret_int (by unfold cutI; omega), rfl⟩)
  | (rename_i ha; (first | rw [if_pos h] at ha | rw [if_neg (by omega)] at ha); go_ret; exact ⟨ret_int (by unfold cutI; omega), rfl⟩)
/-- products of three numbers that are not far -/
theorem cube_bd {n : Int} (h1 : -10000 ≤ n) (h2 : n ≤ 10000) : (-100000000 ≤ n * n ∧ n * n ≤ 100000000) ∧ -1000000000000 ≤ n * n * n ∧ n * n * n ≤ 1000000000000 := by
 have a := mulB_bd (A := 10000) (B := 10000) h1 h2 h1 h2
 have b := mulB_bd (A := 100000000) (B := 10000) (a := n * n) (by omega) (by omega) h1 h2
 exact ⟨⟨by omega, by omega⟩, by omega, by omega⟩
set_option maxHeartbeats 400000 in
theorem cube_any (n : Int) (w : World) (h1 : -10000 ≤ n) (h2 : n ≤ 10000) : Calls Tryz.prog 117 #[.int .i64 n] w fun e w' => e = .returned (.int .i64 (n * n * n)) ∧ w' = w := by
 obtain ⟨⟨a1, a2⟩, b1, b2⟩ := cube_bd h1 h2
 have w1 : IntKind.i64.wrap (n * n) = n * n := by rw [IntKind.wrap_i64]; omega
 have w2 : IntKind.i64.wrap (n * n * n) = n * n * n := by rw [IntKind.wrap_i64]; omega
 go_enter Tryz.func117, Tryz.ntmps117
 go_wp2_with (fail)
 go_ret
 exact ⟨rfl, rfl⟩
theorem ret_ib {a b : Int} {c : Bool} (h : a = b) : Ending.returned (.tuple #[.int .i64 a, .bool c]) = Ending.returned (.tuple #[.int .i64 b, .bool c]) := by rw [h]
theorem badO_zero (y z : Int) : badO 0 y z = (0, true) := by unfold badO; rw [if_pos rfl]
theorem badO_full {d z : Int} (h : 0 < d) : badO d 0 z = (10000, true) := by unfold badO; rw [if_neg (by omega), if_pos h, if_pos rfl]
theorem badO_up {d y z : Int} (h : 0 < d) (hy : y ≠ 0) : badO d y z = (min ((100 * (d * d * d)).tdiv (y * y * y)) 10000, true) := by unfold badO; rw [if_neg (by omega), if_pos h, if_neg hy]
theorem badO_no {d y z : Int} (h : d < 0) (hz : z < -d) : badO d y z = (0, false) := by unfold badO; rw [if_neg (by omega), if_neg (by omega), if_pos hz]
theorem badO_down {d y z : Int} (h : d < 0) (hz : ¬ z < -d) : badO d y z = ((100 * (-d * -d * -d)).tdiv (z * z * z), true) := by unfold badO; rw [if_neg (by omega), if_neg (by omega), if_neg hz]
theorem cube_pos {n : Int} (h : 0 < n) : 0 < n * n * n := Int.mul_pos (Int.mul_pos h h) h
set_option maxRecDepth 100000 in
set_option maxHeartbeats 1000000 in
theorem bOf_any (d y z : Int) (w : World) : Calls Tryz.prog 99 #[.int .i64 d, .int .i64 y, .int .i64 z] w fun e w' => e = .returned (.tuple #[.int .i64 (badS d y z).1, .bool (badS d y z).2]) ∧ w' = w := by
 obtain ⟨d1, d2⟩ := cutI_bd (n := d) (lo := -10000) (hi := 10000) (by omega)
 obtain ⟨y1, y2⟩ := cutI_bd (n := y) (lo := 0) (hi := 10000) (by omega)
 obtain ⟨z1, z2⟩ := cutI_bd (n := z) (lo := 0) (hi := 10000) (by omega)
 have hS : badS d y z = badO (cutI d (-10000) 10000) (cutI y 0 10000) (cutI z 0 10000) := rfl
 have c1 := fun W => bcut_any d (-10000) 10000 W
 have c2 := fun W => bcut_any y 0 10000 W
 have c3 := fun W => bcut_any z 0 10000 W
 generalize cutI d (-10000) 10000 = D at *
 generalize cutI y 0 10000 = Y at *
 generalize cutI z 0 10000 = Z at *
 replace c1 := hid c1
 replace c2 := hid c2
 replace c3 := hid c3
 obtain ⟨B, hB⟩ : ∃ x, badS d y z = x := ⟨_, rfl⟩
 rw [hB] at hS ⊢
 clear hB
 go_enter Tryz.func99, Tryz.ntmps99
 go_wp2_with (fail)
 refine (c1.out _).mono ?_
 rintro e w1 ⟨rfl, rfl⟩
 go_wp2_with (fail)
 refine (c2.out _).mono ?_
 rintro e w2 ⟨rfl, rfl⟩
 go_wp2_with (fail)
 refine (c3.out _).mono ?_
 rintro e w3 ⟨rfl, rfl⟩
 clear c1 c2 c3
 by_cases h0 : D = 0
 ·subst h0
  rw [badO_zero] at hS
  replace hS := hid hS
  go_wp2_with (fail)
  go_ret2
  exact ⟨by rw [hS.out]; rfl, rfl⟩
 ·have h0b : (D == 0) = false := by simpa using h0
  by_cases hp : 0 < D
  ·by_cases hy : Y = 0
   ·subst hy
    rw [badO_full hp] at hS
    replace hS := hid hS
    go_wp2_with (fail)
    go_ret2
    exact ⟨by rw [hS.out]; rfl, rfl⟩
   ·have hyb : (Y == 0) = false := by simpa using hy
    rw [badO_up hp hy] at hS
    have k1 := hid (fun W => cube_any D W d1 d2)
    have k2 := hid (fun W => cube_any Y W (by omega) y2)
    obtain ⟨-, b1, b2⟩ := cube_bd d1 d2
    have b3 := cube_pos (show 0 < Y by omega)
    generalize D * D * D = C at *
    generalize Y * Y * Y = E at *
    have w1 : IntKind.i64.wrap (100 * C) = 100 * C := by rw [IntKind.wrap_i64]; omega
    have hE : ¬ E = 0 := by omega
    have hEb : (E == 0) = false := by simpa using hE
    have hXb := Int.natAbs_tdiv_le_natAbs (100 * C) E
    obtain ⟨X, hX⟩ : ∃ x, (100 * C).tdiv E = x := ⟨_, rfl⟩
    rw [hX] at hXb hS
    have hXw : IntKind.i64.wrap X = X := by rw [IntKind.wrap_i64]; omega
    replace hS := hid hS
    go_wp2_with (fail)
    refine (k1.out _).mono ?_
    rintro e w4 ⟨rfl, rfl⟩
    go_wp2_with (fail)
    refine (k2.out _).mono ?_
    rintro e w5 ⟨rfl, rfl⟩
    go_wp2_with (fail)
    all_goals
     go_ret2
     exact ⟨by rw [hS.out]; exact ret_ib (by omega), rfl⟩
  ·have hn : D < 0 := by omega
   have w1 : IntKind.i64.wrap (-D) = -D := by rw [IntKind.wrap_i64]; omega
   by_cases hz : Z < -D
   ·rw [badO_no hn hz] at hS
    replace hS := hid hS
    go_wp2_with (fail)
    go_ret2
    exact ⟨by rw [hS.out]; rfl, rfl⟩
   ·rw [badO_down hn hz] at hS
    have k1 := hid (fun W => cube_any (-D) W (by omega) (by omega))
    have k2 := hid (fun W => cube_any Z W (by omega) z2)
    obtain ⟨-, b1, b2⟩ := cube_bd (show -10000 ≤ -D by omega) (show -D ≤ 10000 by omega)
    have b3 := cube_pos (show 0 < Z by omega)
    generalize -D * -D * -D = C at *
    generalize Z * Z * Z = E at *
    have w2 : IntKind.i64.wrap (100 * C) = 100 * C := by rw [IntKind.wrap_i64]; omega
    have hE : ¬ E = 0 := by omega
    have hEb : (E == 0) = false := by simpa using hE
    have hXb := Int.natAbs_tdiv_le_natAbs (100 * C) E
    obtain ⟨X, hX⟩ : ∃ x, (100 * C).tdiv E = x := ⟨_, rfl⟩
    rw [hX] at hXb hS
    have hXw : IntKind.i64.wrap X = X := by rw [IntKind.wrap_i64]; omega
    replace hS := hid hS
    go_wp2_with (fail)
    refine (k1.out _).mono ?_
    rintro e w4 ⟨rfl, rfl⟩
    go_wp2_with (fail)
    refine (k2.out _).mono ?_
    rintro e w5 ⟨rfl, rfl⟩
    go_wp2_with (fail)
    go_ret2
    exact ⟨by rw [hS.out]; exact ret_ib rfl, rfl⟩
set_option maxRecDepth 100000 in
set_option maxHeartbeats 1000000 in
theorem bDem_any (bad cost : Int) (tw : Bool) (w : World) : Calls Tryz.prog 100 #[.int .i64 bad, .int .i64 cost, .bool tw] w fun e w' => e = .returned (.int .i64 (demS bad cost tw)) ∧ w' = w := by
 obtain ⟨d1, d2⟩ := cutI_bd (n := bad) (lo := 0) (hi := 10000) (by omega)
 obtain ⟨y1, y2⟩ := cutI_bd (n := cost) (lo := 0) (hi := 10000) (by omega)
 have hS : demS bad cost tw = (10 + cutI bad 0 10000) * (10 + cutI bad 0 10000) + cutI cost 0 10000 * cutI cost 0 10000 + if tw = true then 3000 else 0 := rfl
 have c1 := fun W => bcut_any bad 0 10000 W
 have c2 := fun W => bcut_any cost 0 10000 W
 generalize cutI bad 0 10000 = D at *
 generalize cutI cost 0 10000 = Y at *
 replace c1 := hid c1
 replace c2 := hid c2
 have a1 := mulB_bd (a := 10 + D) (b := 10 + D) (A := 10010) (B := 10010) (by omega) (by omega) (by omega) (by omega)
 have a2 := mulB_bd (a := Y) (b := Y) (A := 10000) (B := 10000) (by omega) (by omega) (by omega) (by omega)
 obtain ⟨S, hSS⟩ : ∃ x, 10 + D = x := ⟨_, rfl⟩
 have e1 : IntKind.i64.wrap (10 + D) = S := by rw [hSS, IntKind.wrap_i64]; omega
 rw [hSS] at a1 hS
 obtain ⟨S2, hS2⟩ : ∃ x, S * S = x := ⟨_, rfl⟩
 obtain ⟨Y2, hY2⟩ : ∃ x, Y * Y = x := ⟨_, rfl⟩
 have e2 : IntKind.i64.wrap (S * S) = S2 := by rw [hS2, IntKind.wrap_i64]; omega
 have e3 : IntKind.i64.wrap (Y * Y) = Y2 := by rw [hY2, IntKind.wrap_i64]; omega
 have e4 : IntKind.i64.wrap (S2 + Y2) = S2 + Y2 := by rw [IntKind.wrap_i64]; omega
 have e5 : IntKind.i64.wrap (S2 + Y2 + 3000) = S2 + Y2 + 3000 := by rw [IntKind.wrap_i64]; omega
 rw [hS2, hY2] at hS
 clear hSS hS2 hY2 a1 a2
 rw [hS]
 clear hS
 go_enter Tryz.func100, Tryz.ntmps100
 go_wp2_with (fail)
 refine (c1.out _).mono ?_
 rintro e w1 ⟨rfl, rfl⟩
 go_wp2_with (fail)
 refine (c2.out _).mono ?_
 rintro e w2 ⟨rfl, rfl⟩
 cases tw with
 | true =>
  go_wp2_with (fail)
  go_ret
  exact ⟨rfl, rfl⟩
 | false =>
  go_wp2_with (fail)
  go_ret
  exact ⟨ret_int (by simp), rfl⟩
end Go.Proofs.YtempicociampoaaGreatDoor
