/- Plain laws of breaks: how bad a line is, its demerits, ways, the best one of all. Plain laws of a word's numbers: great and small letters are alike; where a word may be broken. Plain laws of markup: which texts may be; a source's parts are the parts of which it is. Validity behind a prefix; when the reference stops. -/
import Derived.Test.YtempicociampoaaGreatDoorJ0
import Derived.Test.YtempicociampoaaGreatDoorJ1
namespace Go.Proofs.YtempicociampoaaGreatDoor
open Go.RowKit

/-- a number between two others -/
def cutI (n lo hi : Int) : Int := max lo (min n hi)
theorem cutI_bd {n lo hi : Int} (h : lo ≤ hi) : lo ≤ cutI n lo hi ∧ cutI n lo hi ≤ hi := by unfold cutI; omega
/-- how bad a line is; false: it can't be (of numbers that are cut) -/
def badO (d y z : Int) : Int × Bool :=
 if d = 0 then (0, true)
 else if 0 < d then (if y = 0 then (10000, true) else (min ((100 * (d * d * d)).tdiv (y * y * y)) 10000, true))
 else if z < -d then (0, false) else ((100 * (-d * -d * -d)).tdiv (z * z * z), true)
def badS (d y z : Int) : Int × Bool := badO (cutI d (-10000) 10000) (cutI y 0 10000) (cutI z 0 10000)
def demS (bad cost : Int) (twice : Bool) : Int := (10 + cutI bad 0 10000) * (10 + cutI bad 0 10000) + cutI cost 0 10000 * cutI cost 0 10000 + if twice then 3000 else 0
theorem demS_bd (bad cost : Int) (twice : Bool) : 0 ≤ demS bad cost twice ∧ demS bad cost twice ≤ 1000000000 := by
 unfold demS
 obtain ⟨h1, h2⟩ := cutI_bd (n := bad) (lo := 0) (hi := 10000) (by omega)
 obtain ⟨h3, h4⟩ := cutI_bd (n := cost) (lo := 0) (hi := 10000) (by omega)
 generalize cutI bad 0 10000 = b at *
 generalize cutI cost 0 10000 = c at *
 have hb : (10 + b) * (10 + b) ≤ 10010 * 10010 := Int.mul_le_mul (by omega) (by omega) (by omega) (by omega)
 have hb0 : 0 ≤ (10 + b) * (10 + b) := Int.mul_nonneg (by omega) (by omega)
 have hc : c * c ≤ 10000 * 10000 := Int.mul_le_mul (by omega) (by omega) (by omega) (by omega)
 have hc0 : 0 ≤ c * c := Int.mul_nonneg (by omega) (by omega)
 split <;> omega
theorem badS_no {d y z : Int} (h : (badS d y z).2 = false) : d < 0 ∧ cutI z 0 10000 < -cutI d (-10000) 10000 := by
 unfold badS badO at h
 split at h
 ·cases h
 ·split at h
  ·split at h <;> cases h
  ·rename_i h1 h2
   split at h
   ·rename_i h3
    exact ⟨by unfold cutI at h1 h2; omega, h3⟩
   ·cases h

structure Li where
 dem : Int
 over : Bool
 may : Bool
def penAt (l : List It) (n : Int) : Bool := decide (0 ≤ n) && isPen l n.toNat
def costAt (l : List It) (t : Nat) : Int := match l[t]? with | some x => if x.kind = 3 then plain x.cost else 0 | none => 0
/-- how bad the line from n to t is -/
def lbad (l : List It) (wd n : Int) (t : Nat) : Int × Bool :=
 if t = l.length ∧ 0 ≤ wd - (lineSm l (firstL l n) t).w then (0, true) else badS (wd - (lineSm l (firstL l n) t).w) (lineSm l (firstL l n) t).y (lineSm l (firstL l n) t).z
/-- a line's demerits, whether it is overfull, whether it may be -/
def liS (l : List It) (wd tol n : Int) (t : Nat) : Li :=
 if (lbad l wd n t).2 = true then ⟨demS (lbad l wd n t).1 (costAt l t) (penAt l n && isPen l t), false, decide ((lbad l wd n t).1 ≤ tol)⟩
 else ⟨100000000000 * (min (-(wd - (lineSm l (firstL l n) t).w)) 10000 - min (lineSm l (firstL l n) t).z 10000), true, false⟩
theorem li_bd (l : List It) (wd tol n : Int) (t : Nat) : 0 ≤ (liS l wd tol n t).dem ∧ (liS l wd tol n t).dem ≤ 1000000000000000 := by
 unfold liS
 split
 ·have := demS_bd (lbad l wd n t).1 (costAt l t) (penAt l n && isPen l t)
  dsimp only
  omega
 ·rename_i h
  have hz := (lineSm_bd l (firstL l n) t).2.2.1
  unfold lbad at h
  split at h
  ·exact absurd rfl h
  ·obtain ⟨h1, h2⟩ := badS_no (by simpa using h)
   unfold cutI at h2
   dsimp only
   omega

structure Wy where
 br : List Int
 tot : Int
 ov : Int
/-- lists in order -/
def lessI : List Int → List Int → Bool
 | [], [] => false
 | [], _ :: _ => true
 | _ :: _, [] => false
 | a :: x, b :: y => if a = b then lessI x y else decide (a < b)
/-- lists held against each other: below 0, 0, above 0 -/
def cmpL : List Int → List Int → Int
 | [], [] => 0
 | [], _ :: _ => -1
 | _ :: _, [] => 1
 | a :: x, b :: y => if a < b then -1 else if b < a then 1 else cmpL x y
theorem lessI_cmp : ∀ a b : List Int, lessI a b = decide (cmpL a b < 0)
 | [], [] => rfl
 | [], _ :: _ => rfl
 | _ :: _, [] => rfl
 | a :: x, b :: y => by
  rw [lessI, cmpL]
  by_cases h : a = b
  ·rw [if_pos h, if_neg (by omega), if_neg (by omega)]
   exact lessI_cmp x y
  ·rw [if_neg h]
   by_cases h1 : a < b
   ·rw [if_pos h1, decide_eq_true h1]; rfl
   ·rw [if_neg h1, if_pos (by omega), decide_eq_false h1]; rfl
theorem cmpL_at {a b : List Int} {k : Nat} {x y : Int} (h1 : a[k]? = some x) (h2 : b[k]? = some y) : cmpL (a.drop k) (b.drop k) = if x < y then -1 else if y < x then 1 else cmpL (a.drop (k + 1)) (b.drop (k + 1)) := by
 obtain ⟨h3, h4⟩ := List.getElem?_eq_some_iff.1 h1
 obtain ⟨h5, h6⟩ := List.getElem?_eq_some_iff.1 h2
 rw [List.drop_eq_getElem_cons h3, List.drop_eq_getElem_cons h5, h4, h6, cmpL]
theorem cmpL_long {a b : List Int} {k : Nat} (h1 : k < a.length) (h2 : b.length ≤ k) : cmpL (a.drop k) (b.drop k) = 1 := by
 rw [List.drop_eq_getElem_cons h1, List.drop_eq_nil_of_le h2, cmpL]
theorem cmpL_end {a b : List Int} {k : Nat} (h1 : a.length ≤ k) : cmpL (a.drop k) (b.drop k) = if k < b.length then -1 else 0 := by
 rw [List.drop_eq_nil_of_le h1]
 by_cases h : k < b.length
 ·rw [List.drop_eq_getElem_cons h, if_pos h, cmpL]
 ·rw [List.drop_eq_nil_of_le (by omega), if_neg h, cmpL]
theorem mulB_bd {a b A B : Int} (h1 : -A ≤ a) (h2 : a ≤ A) (h3 : -B ≤ b) (h4 : b ≤ B) : -(A * B) ≤ a * b ∧ a * b ≤ A * B := by
 have e1 := Int.mul_nonneg (show 0 ≤ A - a by omega) (show 0 ≤ B - b by omega)
 have e2 := Int.mul_nonneg (show 0 ≤ A + a by omega) (show 0 ≤ B + b by omega)
 have e3 := Int.mul_nonneg (show 0 ≤ A - a by omega) (show 0 ≤ B + b by omega)
 have e4 := Int.mul_nonneg (show 0 ≤ A + a by omega) (show 0 ≤ B - b by omega)
 simp only [Int.sub_mul, Int.mul_sub, Int.add_mul, Int.mul_add] at e1 e2 e3 e4
 omega
def betterW (a b : Wy) : Bool := if a.tot = b.tot then lessI a.br b.br else decide (a.tot < b.tot)
def offerW (c : Option Wy) (w : Wy) : Option Wy := match c with | none => some w | some v => if betterW w v = true then some w else some v
/-- a way with a line more -/
def moreW (v : Wy) (x : Li) (t : Int) : Wy := ⟨v.br ++ [t], v.tot + x.dem, v.ov + if x.over = true then 1 else 0⟩
def tryW (l : List It) (wd tol : Int) (all : Bool) (n : Int) (t : Nat) (v c : Option Wy) : Option Wy := match v with
 | none => c
 | some v => if firstL l n < t then (if (all || (liS l wd tol n t).may) = true then offerW c (moreW v (liS l wd tol n t) t) else c) else c
/-- the best way to t of those by the first i places -/
def foldW (l : List It) (wd tol : Int) (all : Bool) (pl : List Int) (fs : List (Option Wy)) (t : Nat) : Nat → Option Wy
 | 0 => none
 | i + 1 => tryW l wd tol all (pl.getD i 0) t (fs.getD i none) (foldW l wd tol all pl fs t i)
/-- the best ways to the places 0 to k -/
def foundW (l : List It) (wd tol : Int) (all : Bool) (pl : List Int) : Nat → List (Option Wy)
 | 0 => [some ⟨[], 0, 0⟩]
 | k + 1 => foundW l wd tol all pl k ++ [foldW l wd tol all pl (foundW l wd tol all pl k) (pl.getD (k + 1) 0).toNat (k + 1)]
theorem found_len (l : List It) (wd tol : Int) (all : Bool) (pl : List Int) : ∀ k, (foundW l wd tol all pl k).length = k + 1
 | 0 => rfl
 | k + 1 => by rw [foundW, List.length_append, found_len l wd tol all pl k]; rfl
def Wy.bd (w : Wy) (k : Nat) : Prop := w.br.length ≤ k ∧ 0 ≤ w.tot ∧ w.tot ≤ 1000000000000000 * (k : Int) ∧ 0 ≤ w.ov ∧ w.ov ≤ (k : Int)
theorem Wy.bd_mono {w : Wy} {k m : Nat} (h : w.bd k) (hk : k ≤ m) : w.bd m := by
 obtain ⟨a, b, c, d, e⟩ := h
 exact ⟨by omega, b, by omega, d, by omega⟩
theorem more_bd {v : Wy} {k : Nat} (h : v.bd k) (l : List It) (wd tol n : Int) (t : Nat) (x : Int) : (moreW v (liS l wd tol n t) x).bd (k + 1) := by
 obtain ⟨a, b, c, d, e⟩ := h
 have := li_bd l wd tol n t
 unfold moreW
 refine ⟨by simp; omega, by dsimp only; omega, by dsimp only; omega, ?_, ?_⟩
 ·dsimp only; split <;> omega
 ·dsimp only; split <;> omega
theorem offer_bd {c : Option Wy} {w : Wy} {k : Nat} (hc : ∀ v : Wy, c = some v → v.bd k) (hw : w.bd k) : ∀ v : Wy, offerW c w = some v → v.bd k := fun v hv => by
 unfold offerW at hv
 split at hv
 ·cases hv; exact hw
 ·split at hv
  ·cases hv; exact hw
  ·cases hv; exact hc _ rfl
theorem fold_bd {l : List It} {wd tol : Int} {all : Bool} {pl : List Int} {fs : List (Option Wy)} {t k : Nat} (hf : ∀ (i : Nat) (v : Wy), fs[i]? = some (some v) → v.bd k) : ∀ (i : Nat) (v : Wy), foldW l wd tol all pl fs t i = some v → v.bd (k + 1)
 | 0, v, h => by cases h
 | i + 1, v, h => by
  have ih := fold_bd (l := l) (wd := wd) (tol := tol) (all := all) (pl := pl) (t := t) hf i
  unfold foldW tryW at h
  split at h
  ·exact ih v h
  ·rename_i u hu
   have hu2 : u.bd k := by
    rw [List.getD_eq_getElem?_getD] at hu
    cases hg : fs[i]? with
    | none => rw [hg] at hu; cases hu
    | some y => rw [hg] at hu; exact hf i u (by rw [hg]; exact congrArg some hu)
   split at h
   ·split at h
    ·exact offer_bd ih (more_bd hu2 l wd tol _ t _) v h
    ·exact ih v h
   ·exact ih v h
theorem found_bd (l : List It) (wd tol : Int) (all : Bool) (pl : List Int) : ∀ (k i : Nat) (v : Wy), (foundW l wd tol all pl k)[i]? = some (some v) → v.bd k
 | 0, i, v, h => by
  match i, h with
  | 0, h => cases h; exact ⟨by simp, by simp, by simp, by simp, by simp⟩
  | i + 1, h => simp [foundW] at h
 | k + 1, i, v, h => by
  have ih := found_bd l wd tol all pl k
  rw [foundW] at h
  by_cases hi : i < (foundW l wd tol all pl k).length
  ·rw [List.getElem?_append_left hi] at h
   exact Wy.bd_mono (ih i v h) (by omega)
  ·rw [List.getElem?_append_right (by omega)] at h
   cases hj : i - (foundW l wd tol all pl k).length with
   | zero =>
    rw [hj] at h
    exact fold_bd ih _ v (Option.some.inj h)
   | succ j => rw [hj] at h; simp at h
def bestW (l : List It) (wd tol : Int) (all : Bool) (pl : List Int) : Option Wy := (foundW l wd tol all pl (pl.length - 1)).getLast?.getD none
end Go.Proofs.YtempicociampoaaGreatDoor
namespace Go.Proofs.YtempicociampoaaGreatDoor
open Go.RowKit Go.Lib

theorem enc_ascii : ∀ n : Nat, n < 128 → encodeRune (n : Int) = [n.toUInt8] := by decide +kernel
theorem let_byte : ∀ n : Nat, n < 256 → isLet n.toUInt8 = true → n < 128 := by decide +kernel
/-- a word that has numbers is valid text -/
theorem numbers_invalid {s : List UInt8} (h : validD s = false) : numbersL s = [] := by
 by_cases ha : s.all isLet = true
 ·exfalso
  have hv : validD s = true := by
   refine (valid_iff s).2 ⟨s.map fun c => (c.toNat : Int), fun x hx => ?_, ?_⟩
   ·obtain ⟨c, hc, rfl⟩ := List.mem_map.1 hx
    have h1 := List.all_eq_true.1 ha c hc
    have h2 := let_byte c.toNat c.toNat_lt (by simpa using h1)
    unfold okv; omega
   ·clear h
    induction s with
    | nil => rfl
    | cons c s ih =>
     have h1 := List.all_eq_true.1 ha c (by simp)
     have h2 := let_byte c.toNat c.toNat_lt (by simpa using h1)
     rw [List.map_cons, txt_cons, enc_ascii _ h2, ← ih (List.all_eq_true.2 fun d hd => List.all_eq_true.1 ha d (by simp [hd]))]
     simp
  rw [h] at hv; cases hv
 ·unfold numbersL smallL
  rw [if_neg (by rintro ⟨h1, -⟩; exact ha h1)]

theorem pointsTo_len (nums : List Int) : ∀ k, (pointsTo nums k).length ≤ k := by
 intro k; induction k with
 | zero => exact Nat.le_refl _
 | succ k ih => unfold pointsTo; rw [List.length_append]; split <;> simp <;> omega
end Go.Proofs.YtempicociampoaaGreatDoor
namespace Go.Proofs.YtempicociampoaaGreatDoor
open Go.RowKit Go.Lib

/-- signs that may be -/
def clean (but : Int) (s : L8) : Prop := ∀ b ∈ s, (b.toNat : Int) = but ∨ ¬ ((b.toNat : Int) < 32 ∨ (b.toNat : Int) = 127)
def plainB (but : Int) (s : L8) : Prop := validD s = true ∧ clean but s
instance (but : Int) (s : L8) : Decidable (clean but s) := by unfold clean; infer_instance
instance (but : Int) (s : L8) : Decidable (plainB but s) := by unfold plainB; infer_instance
theorem clean_app {but : Int} {a b : L8} : clean but (a ++ b) ↔ clean but a ∧ clean but b := by
 unfold clean
 constructor
 ·intro h; exact ⟨fun x hx => h x (List.mem_append_left _ hx), fun x hx => h x (List.mem_append_right _ hx)⟩
 ·rintro ⟨h1, h2⟩ x hx
  rcases List.mem_append.1 hx with h | h
  ·exact h1 x h
  ·exact h2 x h
theorem enc_map (v : Int) : encodeRune v = (encodeRuneZ v).map fun z => z.toNat.toUInt8 := rfl
theorem enc_kind {v : Int} (h : okv v) : (v ≤ 127 ∧ encodeRune v = [v.toNat.toUInt8]) ∨ (128 ≤ v ∧ ∀ b ∈ encodeRune v, 128 ≤ b.toNat) := by
 have h0 := h.1
 have h1 := h.2.1
 rw [enc_map]
 rcases encZ_cases h with ⟨h2, e⟩ | ⟨h2, h3, e⟩ | ⟨h2, h3, e⟩ | ⟨h2, e⟩
 ·left; exact ⟨h2, by rw [e]; rfl⟩
 all_goals
  right
  refine ⟨by omega, fun b hb => ?_⟩
  rw [e] at hb
  simp only [List.map_cons, List.map_nil, List.mem_cons, List.not_mem_nil, or_false] at hb
 ·rcases hb with rfl | rfl
  ·rw [b8 (by omega) (by omega)]; omega
  ·rw [b8 (by omega) (by omega)]; omega
 ·rcases hb with rfl | rfl | rfl
  ·rw [b8 (by omega) (by omega)]; omega
  ·rw [b8 (by omega) (by omega)]; omega
  ·rw [b8 (by omega) (by omega)]; omega
 ·rcases hb with rfl | rfl | rfl | rfl
  ·rw [b8 (by omega) (by omega)]; omega
  ·rw [b8 (by omega) (by omega)]; omega
  ·rw [b8 (by omega) (by omega)]; omega
  ·rw [b8 (by omega) (by omega)]; omega
/-- a sign that may be: its bytes may be -/
def okS (but x : Int) : Prop := x = but ∨ ¬ (x < 32 ∨ x = 127)
instance (but x : Int) : Decidable (okS but x) := by unfold okS; infer_instance
theorem clean_enc {but v : Int} (h : okv v) (_hb : but ≤ 127) : clean but (encodeRune v) ↔ okS but v := by
 have h0 := h.1
 rcases enc_kind h with ⟨h1, e⟩ | ⟨h1, h2⟩
 ·rw [e]
  have e2 : ((v.toNat.toUInt8).toNat : Int) = v := by rw [b8 h0 (by omega)]; omega
  constructor
  ·intro h
   have := h _ (List.mem_singleton.2 rfl)
   rw [e2] at this
   exact this
  ·intro h b hb
   rw [List.mem_singleton.1 hb, e2]
   exact h
 ·constructor
  ·intro _; right; omega
  ·intro _ b hbm; have := h2 b hbm; right; omega
theorem clean_txt {but : Int} (hb : but ≤ 127) : ∀ {xs : List Int}, (∀ x ∈ xs, okv x) → (clean but (txt xs) ↔ ∀ x ∈ xs, okS but x) := by
 intro xs
 induction xs with
 | nil => intro _; simp [txt, clean]
 | cons x r ih =>
  intro h
  rw [txt_cons, clean_app, clean_enc (h x List.mem_cons_self) hb, ih fun y hy => h y (List.mem_cons_of_mem _ hy)]
  simp
/-- words that may be -/
def goodW (w : L8) : Prop := w ≠ [] ∧ plainB 33 w ∧ (32 : UInt8) ∉ w
/-- parts that may be -/
def goodP (p : P8) : Prop := (∀ w ∈ p.2, goodW w) ∧ ((p.1 = 4 ∧ p.2 = []) ∨ ((p.1 = 2 ∨ p.1 = 3) ∧ p.2 ≠ []) ∨ (p.1 = 1 ∧ p.2 ≠ [] ∧ p.2 ≠ [[45, 45, 45]] ∧ (2 ≤ p.2.length → p.2.headD [] ≠ [61] ∧ p.2.headD [] ≠ [45])))
instance (w : L8) : Decidable (goodW w) := by unfold goodW; infer_instance
instance (p : P8) : Decidable (goodP p) := by unfold goodP; infer_instance
end Go.Proofs.YtempicociampoaaGreatDoor
namespace Go.Proofs.YtempicociampoaaGreatDoor
open Go.Lib

theorem txt_split : ∀ {pre xs : List Int} {rest : List UInt8}, (∀ x ∈ pre, okv x) → (∀ x ∈ xs, okv x) → txt pre ++ rest = txt xs → ∃ ys, xs = pre ++ ys ∧ rest = txt ys
 | [], xs, rest, _, _, h => ⟨xs, rfl, h⟩
 | p :: pre, [], rest, hp, _, h => by
  have := (enc_len (hp p (by simp))).1
  have e := congrArg List.length h
  rw [txt_cons, List.length_append, List.length_append] at e
  have h3 : (txt []).length = 0 := rfl
  omega
 | p :: pre, x :: xs, rest, hp, hx, h => by
  rw [txt_cons, txt_cons, List.append_assoc] at h
  have d1 := dec_enc (hp p (by simp)) (txt pre ++ rest)
  have d2 := dec_enc (hx x (by simp)) (txt xs)
  rw [h, d2] at d1
  have e1 := congrArg Prod.fst d1
  dsimp only at e1
  have q1 := (hp p (by simp)).1
  have q2 := (hx x (by simp)).1
  have e : x = p := by omega
  subst e
  obtain ⟨ys, e2, e3⟩ := txt_split (fun y hy => hp y (by simp [hy])) (fun y hy => hx y (by simp [hy])) (List.append_cancel_left h)
  exact ⟨ys, by rw [e2]; rfl, e3⟩

theorem valid_app {pre : List Int} (hp : ∀ x ∈ pre, okv x) {rest : List UInt8} (h : validD rest = false) : validD (txt pre ++ rest) = false := by
 cases hv : validD (txt pre ++ rest) with
 | false => rfl
 | true =>
  obtain ⟨xs, hx, he⟩ := (valid_iff _).1 hv
  obtain ⟨ys, rfl, e2⟩ := txt_split hp hx he
  have := (valid_iff rest).2 ⟨ys, fun y hy => hx y (by simp [hy]), e2⟩
  rw [this] at h; cases h

/-- what the reference sees at the head of what is left -/
def refGood (l : List UInt8) : Prop := refn (l.getD 0 0).toNat ≤ l.length ∧ okv (refv l (refn (l.getD 0 0).toNat - 1)) ∧ encodeRune (refv l (refn (l.getD 0 0).toNat - 1)) = l.take (refn (l.getD 0 0).toNat)

theorem ref_bad {l : List UInt8} (hl : l ≠ []) (h : ¬ refGood l) : validD l = false := by
 cases hv : validD l with
 | false => rfl
 | true =>
  obtain ⟨xs, hx, he⟩ := (valid_iff _).1 hv
  match xs, hx, he with
  | [], _, he => exact absurd he hl
  | x :: xs, hx, he =>
   rw [txt_cons] at he
   obtain ⟨h1, h2⟩ := ref_enc (hx x (by simp)) (txt xs)
   rw [← he] at h1 h2
   refine absurd ⟨?_, ?_, ?_⟩ h
   ·rw [h1, he]; simp
   ·rw [h1, h2]; exact hx x (by simp)
   ·rw [h1, h2, he]; simp

theorem refn_cases (b : Int) : (refn b = 4 ∧ 240 ≤ b ∧ refv0 b = b - 240) ∨ (refn b = 3 ∧ ¬ 240 ≤ b ∧ 224 ≤ b ∧ refv0 b = b - 224) ∨
  (refn b = 2 ∧ ¬ 240 ≤ b ∧ ¬ 224 ≤ b ∧ 192 ≤ b ∧ refv0 b = b - 192) ∨ (refn b = 1 ∧ ¬ 240 ≤ b ∧ ¬ 224 ≤ b ∧ ¬ 192 ≤ b ∧ refv0 b = b) := by
 unfold refn refv0
 by_cases h1 : 240 ≤ b
 ·exact .inl ⟨by rw [if_pos h1], h1, by rw [if_pos h1]⟩
 ·by_cases h2 : 224 ≤ b
  ·exact .inr (.inl ⟨by rw [if_neg h1, if_pos h2], h1, h2, by rw [if_neg h1, if_pos h2]⟩)
  ·by_cases h3 : 192 ≤ b
   ·exact .inr (.inr (.inl ⟨by rw [if_neg h1, if_neg h2, if_pos h3], h1, h2, h3, by rw [if_neg h1, if_neg h2, if_pos h3]⟩))
   ·exact .inr (.inr (.inr ⟨by rw [if_neg h1, if_neg h2, if_neg h3], h1, h2, h3, by rw [if_neg h1, if_neg h2, if_neg h3]⟩))
end Go.Proofs.YtempicociampoaaGreatDoor
