/- The walk of measure.First. Plain laws of lines: the text of lines. Plain laws of MarkupWords and MarkupMarks. From a law's contract to its row: the arguments' readings opened; what is asked behind the call. Plain laws of lines that are set: where a spelled part may be broken. Plain laws of the reference's numbers. The walk of utf's iterator over a text's signs. -/
import Derived.Test.YtempicociampoaaGreatDoorJ1
import Derived.Test.YtempicociampoaaGreatDoorJ2
import Derived.Test.YtempicociampoaaGreatDoorRange
import Derived.ProofKit
import Derived.OpenShut
import Derived.Deep.Slices
import Derived.Test.YtempicociampoaaGreatDoorJ0
import Derived.Lib.OthersKept
namespace Go.Proofs.YtempicociampoaaGreatDoor
open Go.RowKit

theorem from1_cases (n : Int) (len : Nat) : (n ≤ -1 ∧ (from1 n len : Int) = 0) ∨ (-1 < n ∧ n < len ∧ (from1 n len : Int) = n + 1) ∨ (n = len ∧ (from1 n len : Int) = len + 1) ∨ ((len : Int) < n ∧ (from1 n len : Int) = len + 1) := by
 unfold from1; omega

set_option maxRecDepth 100000 in
set_option maxHeartbeats 1000000 in
theorem First_any (v : Value) (l : List It) (n : Int) (w : World) (hl : Sl w 6 encIt v l) (hle : l.length ≤ 5000) (hn : w64 n) :
  Calls Tryz.prog 66 #[v, .int .i64 n] w fun e w' => e = .returned (.int .i64 (firstL l n)) ∧ w = w' := by
 obtain ⟨h1, h2⟩ := hn
 obtain ⟨p, cap, rfl, hmx⟩ := hl.shape
 have hf : firstL l n = fst l (from1 n l.length) := rfl
 have Hf := hid hf
 clear hf hmx
 have hc := from1_cases n l.length
 have hk : ∃ k0 : Nat, from1 n l.length = k0 := ⟨_, rfl⟩
 obtain ⟨k0, hk0⟩ := hk
 rw [hk0] at hc
 have Hk0 := hid hk0
 have Hl := hid hl
 clear hk0 hl
 rcases hc with ⟨c1, c2⟩ | ⟨c0, c1, c2⟩ | ⟨rfl, c2⟩ | ⟨c1, c2⟩
 all_goals
  go_enter Tryz.func66, Tryz.ntmps66
  go_wp2
  first | rw [← (c2 : (k0 : Int) = n + 1)] | skip
  go_loopw [5] (fun i wr => ∃ k : Nat, k ≤ l.length + 1 ∧ i = .int .i64 k ∧ fst l k0 = fst l k ∧ wr = w) (fun i _ => l.length + 1 - (RowKit.intOf i).toNat)
  case atStart => exact ⟨k0, by omega, by first | rfl | rw [c2], rfl, rfl⟩
  case round =>
   obtain ⟨k, hk, rfl, hfs, rfl⟩ := hrel
   by_cases hkl : k < l.length
   ·obtain ⟨b, o, cap', he, e1, e2, e3⟩ := (Hid.out Hl).open (by rintro rfl; simp at hkl)
    cases he
    have hc := e3 k l[k] (List.getElem?_eq_getElem hkl) 0 _ rfl
    simp only [Nat.add_zero] at hc
    by_cases hb : l[k].kind = 1
    ·have hr := hid (fst_hit hkl hb)
     rw [hb] at hc
     replace hfs := hid hfs
     clear e3 hb
     go_wp2
     go_ret
     exact ⟨ret_int (by rw [Hf.out, Hk0.out, hfs.out, hr.out]), rfl⟩
    ·have hr := hid (fst_next hkl hb)
     have q : (l[k].kind == 1) = false := by simpa using hb
     replace hfs := hid hfs
     clear e3 hb
     generalize l[k].kind = kk at hc q
     go_wp2
     go_roundw
     case rel => exact ⟨k + 1, by omega, by go_num, by rw [hfs.out, hr.out], trivial⟩
     case measure => simp [RowKit.intOf]; omega
   ·have hr := hid (fst_end (l := l) (k := k) (by omega))
    replace hfs := hid hfs
    go_wp2
    go_ret
    exact ⟨ret_int (by rw [Hf.out, Hk0.out, hfs.out, hr.out]), rfl⟩
end Go.Proofs.YtempicociampoaaGreatDoor
namespace Go.Proofs.YtempicociampoaaGreatDoor
open Go.RowKit

def pc0 : Int × ByteArray := (0, ⟨#[]⟩)
section
variable (tw : ByteArray → Int)
/-- does a piece stand apart from the one ahead? -/
def gapK (ps : List (Int × ByteArray)) (k : Nat) : Bool := decide (0 < k) && !decide (endW tw (ps.take k) = (ps.getD k pc0).1)
/-- the text of a line's first k pieces -/
def lineTo (ps : List (Int × ByteArray)) : Nat → List UInt8
 | 0 => []
 | k + 1 => lineTo ps k ++ (if gapK tw ps k = true then [32] else []) ++ (ps.getD k pc0).2.data.toList
def lineT (ps : List (Int × ByteArray)) : List UInt8 := lineTo tw ps ps.length
/-- does a line end with a hyphen that touches the piece ahead? -/
def brokenS (ps : List (Int × ByteArray)) : Bool := decide (1 < ps.length) && (decide ((ps.getD (ps.length - 1) pc0).2.data.toList = [45]) && decide (endW tw (ps.take (ps.length - 1)) = (ps.getD (ps.length - 1) pc0).1))
/-- what a line lays, with what stands behind -/
def lineOut (ls : List (List (Int × ByteArray))) (i : Nat) : List UInt8 :=
 if i + 1 < ls.length ∧ brokenS tw (ls.getD i []) = true then lineTo tw (ls.getD i []) ((ls.getD i []).length - 1)
 else lineT tw (ls.getD i []) ++ if i + 1 < ls.length then [32] else []
def linesTo (ls : List (List (Int × ByteArray))) : Nat → List UInt8
 | 0 => []
 | i + 1 => linesTo ls i ++ lineOut tw ls i
/-- the text of lines -/
def linesT (ls : List (List (Int × ByteArray))) : List UInt8 := linesTo tw ls ls.length
variable {tw}
theorem gapK_take {ps : List (Int × ByteArray)} {k m : Nat} (h : k < m) : gapK tw (ps.take m) k = gapK tw ps k := by
 unfold gapK
 rw [List.take_take, Nat.min_eq_left (by omega), List.getD_eq_getElem?_getD, List.getD_eq_getElem?_getD, List.getElem?_take_of_lt h]
theorem lineTo_take (ps : List (Int × ByteArray)) (m : Nat) : ∀ k, k ≤ m → lineTo tw (ps.take m) k = lineTo tw ps k
 | 0, _ => rfl
 | k + 1, h => by
  rw [lineTo, lineTo, lineTo_take ps m k (by omega), gapK_take (by omega), List.getD_eq_getElem?_getD, List.getD_eq_getElem?_getD, List.getElem?_take_of_lt (by omega)]
theorem lineT_take {ps : List (Int × ByteArray)} {m : Nat} (h : m ≤ ps.length) : lineT tw (ps.take m) = lineTo tw ps m := by
 unfold lineT
 rw [List.length_take, Nat.min_eq_left h]
 exact lineTo_take ps m m (Nat.le_refl _)
end
end Go.Proofs.YtempicociampoaaGreatDoor
namespace Go.Proofs.YtempicociampoaaGreatDoor
open Go.RowKit Go.Lib

/-- signs from 20 to 7e alone -/
def tameL (l : L8) : Prop := ∀ b ∈ l, 32 ≤ b.toNat ∧ b.toNat ≤ 126
instance (l : L8) : Decidable (tameL l) := by unfold tameL; infer_instance
end Go.Proofs.YtempicociampoaaGreatDoor
namespace Go.Proofs.YtempicociampoaaGreatDoor
open Go.ChangeShapes Go.WideShapes Go.ChangeAt Go.RowKit

section
variable {H : Type} {enc : TypeId × Value → H} {P : Program}

theorem trodAll_below (hl : laidOutB P = true) {W W' : World} (hB : Below W.heap.size W W') : ∀ (ts : List TypeId) (vs : List Value) (ds : List (DataW H)) (ps : List MemPlace),
  (∀ t ∈ ts, P.readableRec t = true ∧ t < P.types.size) → DataW.TrodAll enc P W 0 (fun _ => true) true ts vs ds ps → (∀ x ∈ ps, x.block < W.heap.size) →
  DataW.TrodAll enc P W' 0 (fun b => decide (b < W.heap.size)) true ts vs ds ps
 | [], [], [], _, _, h, _ => h
 | t :: ts, v :: vs, d :: ds, ps, hr, ⟨p, q, h1, h2, e⟩, hlt => by
  subst e
  exact ⟨p, q, Below.trod hl (hr t (by simp)).1 (hr t (by simp)).2 h1 hB (fun x hx => hlt x (by simp [hx])), trodAll_below hl hB ts vs ds q (fun u hu => hr u (by simp [hu])) h2 (fun x hx => hlt x (by simp [hx])), rfl⟩
 | [], _ :: _, _, _, _, h, _ => h.elim
 | [], [], _ :: _, _, _, h, _ => h.elim
 | _ :: _, [], _, _, _, h, _ => h.elim
 | _ :: _, _ :: _, [], _, _, h, _ => h.elim

/-- WHAT A LAW OWES: it has returned true, and what was there is as it was. -/
theorem law_post {fn : Func} {s : ChangeSpec} {W W' : World} {args : Array Value} {ds : List (DataW H)} {before : List MemPlace} {tb : TypeId}
  (hv : s.vars = []) (hW : DataW.Whole enc P fn.params.toList s.vars false W args.toList ds [] before)
  (hfn : s.fn H (ds ++ []) = { results := [.lit (.bool true)], args := ds }) (hrt : fn.resultTypes = #[tb]) (hb : P.underlying tb = some .bool)
  (hl : laidOutB P = true) (hr : ∀ t ∈ fn.params.toList, P.readableRec t = true ∧ t < P.types.size) (hB : Below W.heap.size W W') :
  s.post enc P fn false true false false W args (.bool true) W' := by
 have hW' := hW
 obtain ⟨p, q, hA, hV, rfl, hfz, hnd⟩ := hW
 rw [hv] at hV
 obtain rfl : q = [] := hV
 refine ⟨ds, [], p ++ [], [], p, [], hW', ?_, ?_, ?_, ?_, fun h => by cases h⟩
 ·rw [hfn, hrt]
  refine ⟨[], [], shut_bool hb true, rfl, rfl⟩
 ·rw [hfn]
  exact trodAll_below hl hB _ _ _ _ hr hA (fun x hx => hW'.lt x (by simpa using hx))
 ·rw [hfn, hv]; rfl
 ·exact hB.frame _

theorem add_zero_spot {w : World} {a : Addr} {v : Value} (h : w.cell? ((a.add 0).add 0) = some v) : a.spot = none := by
 have e : (a.add 0).add 0 = a := by unfold Addr.add; simp
 rw [e] at h
 cases hs : a.spot with
 | none => rfl
 | some s =>
  simp only [World.cell?, hs] at h
  split at h
  ·simp at h
  ·cases h

end
end Go.Proofs.YtempicociampoaaGreatDoor
namespace Go.Proofs.YtempicociampoaaGreatDoor
open Go.RowKit

def brkAt (l : List It) (i : Nat) : Bool :=
 match l[i]? with
 | none => false
 | some x => x.kind == 3 || (x.kind == 2 && decide (0 < plain x.y) && decide (0 < i) && (match l[i - 1]? with | some y => y.kind == 1 | none => false))
def brks (l : List It) (k : Nat) : List Int := ((List.range k).filter (brkAt l)).map fun (i : Nat) => (i : Int)
def brk (l : List It) : List Int := brks l l.length ++ [(l.length : Int)]
theorem brks_hit {l : List It} {k : Nat} (h : brkAt l k = true) : brks l (k + 1) = brks l k ++ [(k : Int)] := by
 unfold brks; rw [List.range_succ, List.filter_append, List.map_append]; simp [h]
theorem brks_miss {l : List It} {k : Nat} (h : brkAt l k = false) : brks l (k + 1) = brks l k := by
 unfold brks; rw [List.range_succ, List.filter_append, List.map_append]; simp [h]
theorem brks_len (l : List It) (k : Nat) : (brks l k).length ≤ k := by
 unfold brks; rw [List.length_map]
 exact Nat.le_trans (List.length_filter_le _ _) (by simp)
theorem brk_len (l : List It) : 1 ≤ (brk l).length ∧ (brk l).length ≤ l.length + 1 := by
 have := brks_len l l.length
 unfold brk; simp; omega
theorem brk_mem {l : List It} {b : Int} (h : b ∈ brk l) : ∃ i : Nat, b = i ∧ i ≤ l.length ∧ (i < l.length → ∃ hi : i < l.length, l[i].kind ≠ 1) := by
 unfold brk at h
 rcases List.mem_append.1 h with h | h
 ·obtain ⟨i, hi, rfl⟩ := List.mem_map.1 h
  obtain ⟨h1, h2⟩ := List.mem_filter.1 hi
  have h1 : i < l.length := by simpa using h1
  refine ⟨i, rfl, by omega, fun _ => ⟨h1, fun hk => ?_⟩⟩
  unfold brkAt at h2
  rw [List.getElem?_eq_getElem h1] at h2
  simp [hk] at h2
 ·exact ⟨l.length, by simpa using h, by omega, fun h => by omega⟩
variable {tw : ByteArray → Int}
/-- a part's items as they are spelled: what is no Box stands between Boxes, the one ahead of it with text -/
structure Lp (tw : ByteArray → Int) (l : List It) : Prop where
 good : ∀ x ∈ l, gd tw x
 last : ∃ x, l.getLast? = some x ∧ tb tw x
 near : ∀ i (h : i < l.length), l[i].kind ≠ 1 → 0 < i ∧ (∃ x, l[i - 1]? = some x ∧ tb tw x) ∧ ∃ x, l[i + 1]? = some x ∧ x.kind = 1

theorem Lp.tail {l : List It} (hl : Lp tw l) {t : Nat} (h1 : 0 < t) (h2 : t ≤ l.length) (h3 : t < l.length → ∃ hi : t < l.length, l[t].kind ≠ 1) : ∃ x, l[t - 1]? = some x ∧ tb tw x := by
 by_cases h : t < l.length
 ·obtain ⟨hi, hk⟩ := h3 h
  exact (hl.near t hi hk).2.1
 ·obtain rfl : t = l.length := by omega
  obtain ⟨x, hx, hb⟩ := hl.last
  exact ⟨x, by rw [← List.getLast?_eq_getElem?]; exact hx, hb⟩

theorem Lp.line {l : List It} (hl : Lp tw l) {from_ : Int} {t : Nat} (ht : (t : Int) ∈ brk l) (hf : from_ = -1 ∨ (from_ ∈ brk l ∧ from_ < t)) :
  upto t l.length = t ∧ firstL l from_ < t ∧ (∃ m' x, mid l (firstL l from_) t = m' ++ [x] ∧ tb tw x) ∧ (∀ y ∈ mid l (firstL l from_) t, gd tw y) ∧ (∀ y, l[t]? = some y → y.kind = 3 → y.w = 4) := by
 obtain ⟨x0, hx0, hb0⟩ := hl.last
 have hne : l ≠ [] := by rintro rfl; simp at hx0
 have hpos : 0 < l.length := List.length_pos_iff.2 hne
 obtain ⟨t', ht1, ht2, ht3⟩ := brk_mem ht
 obtain rfl : t' = t := by omega
 have hup : upto (t' : Int) l.length = t' := by unfold upto; omega
 have h0 : l[0].kind = 1 := by
  by_cases h : l[0].kind = 1
  ·exact h
  ·exact absurd (hl.near 0 hpos h).1 (by omega)
 have hfirst : ∃ f, firstL l from_ = f ∧ f < t' := by
  rcases hf with rfl | ⟨hf, hlt⟩
  ·have e : from1 (-1) l.length = 0 := by unfold from1; omega
   refine ⟨0, by unfold firstL; rw [e]; exact fst_hit hpos h0, ?_⟩
   by_cases h : t' = 0
   ·subst h
    obtain ⟨hi, hk⟩ := ht3 hpos
    exact absurd h0 hk
   ·omega
  ·obtain ⟨b, rfl, hb2, hb3⟩ := brk_mem hf
   have hlt : b < t' := by omega
   have hbl : b < l.length := by omega
   obtain ⟨_, hk⟩ := hb3 hbl
   obtain ⟨x, hx, hx1⟩ := (hl.near b hbl hk).2.2
   have hb1 : b + 1 < l.length := (List.getElem?_eq_some_iff.1 hx).1
   have hxe : l[b + 1] = x := (List.getElem?_eq_some_iff.1 hx).2
   have e : from1 (b : Int) l.length = b + 1 := by unfold from1; omega
   refine ⟨b + 1, by unfold firstL; rw [e]; exact fst_hit hb1 (by rw [hxe]; exact hx1), ?_⟩
   by_cases h : t' = b + 1
   ·subst h
    obtain ⟨hi, hk⟩ := ht3 hb1
    rw [hxe] at hk
    exact absurd hx1 hk
   ·omega
 obtain ⟨f, ef, hft⟩ := hfirst
 rw [ef]
 have hg : ∀ y ∈ mid l f t', gd tw y := fun y hy => hl.good y (List.mem_of_mem_take (List.mem_of_mem_drop hy))
 refine ⟨hup, hft, ?_, hg, fun y hy hk => ?_⟩
 ·obtain ⟨x, hx, hb⟩ := hl.tail (by omega) ht2 ht3
  have hxl : t' - 1 < l.length := (List.getElem?_eq_some_iff.1 hx).1
  have hxe : l[t' - 1] = x := (List.getElem?_eq_some_iff.1 hx).2
  refine ⟨mid l f (t' - 1), x, ?_, hb⟩
  have := mid_succ (l := l) (f := f) (t := t' - 1) (by omega) hxl
  rw [show t' - 1 + 1 = t' by omega, hxe] at this
  exact this
 ·rcases hl.good y (List.mem_of_getElem? hy) with ⟨h, -⟩ | ⟨h, -⟩ | ⟨h, -⟩ | ⟨-, h, -⟩
  ·omega
  ·omega
  ·omega
  ·exact h

def emp : ByteArray := ⟨#[]⟩
theorem Lp.snoc {l : List It} {x y : It} (hl : Lp tw l) (hx : gd tw x) (hxk : x.kind ≠ 1) (hy : tb tw y) : Lp tw (l ++ [x, y]) := by
 obtain ⟨z, hz, hzb⟩ := hl.last
 refine ⟨fun a ha => ?_, ⟨y, by simp, hy⟩, fun i hi hk => ?_⟩
 ·rcases List.mem_append.1 ha with h | h
  ·exact hl.good a h
  ·rcases List.mem_cons.1 h with rfl | h
   ·exact hx
   ·obtain rfl : a = y := by simpa using h
    exact .inl hy
 ·simp only [List.length_append, List.length_cons, List.length_nil] at hi
  by_cases h1 : i < l.length
  ·have e : (l ++ [x, y])[i]'(by simp; omega) = l[i] := List.getElem_append_left h1
   rw [e] at hk
   obtain ⟨n1, ⟨a, ha, hab⟩, b, hb, hbk⟩ := hl.near i h1 hk
   refine ⟨n1, ⟨a, ?_, hab⟩, b, ?_, hbk⟩
   ·rw [List.getElem?_append_left (by omega)]; exact ha
   ·have := (List.getElem?_eq_some_iff.1 hb).1
    rw [List.getElem?_append_left this]; exact hb
  ·by_cases h2 : i = l.length
   ·subst h2
    have hpos : 0 < l.length := List.length_pos_iff.2 (by rintro rfl; simp at hz)
    refine ⟨hpos, ⟨z, ?_, hzb⟩, y, ?_, hy.1⟩
    ·rw [List.getElem?_append_left (by omega), ← List.getLast?_eq_getElem?]; exact hz
    ·rw [List.getElem?_append_right (by omega)]; simp
   ·obtain rfl : i = l.length + 1 := by omega
    have e : (l ++ [x, y])[l.length + 1]'(by simp) = y := by
     rw [List.getElem_append_right (by omega)]; simp
    rw [e] at hk
    exact absurd hy.1 hk

end Go.Proofs.YtempicociampoaaGreatDoor
namespace Go.Proofs.YtempicociampoaaGreatDoor
open Go.RowKit Go.Lib

/-- the numbers between the letters, out of the places of the dotted word -/
def win (n : Nat) (l : List Int) : List Int := (l.drop 2).take (n - 1)
theorem win_set (n : Nat) (l : List Int) (i : Nat) (v : Int) : win n (l.set i v) = if 2 ≤ i ∧ i - 2 < n - 1 then (win n l).set (i - 2) v else win n l := by
 unfold win
 by_cases h : 2 ≤ i
 ·rw [List.drop_set, if_neg (by omega), List.take_set]
  by_cases h2 : i - 2 < n - 1
  ·rw [if_pos ⟨h, h2⟩]
  ·rw [if_neg (by omega), List.set_eq_of_length_le (by simp; omega)]
 ·rw [List.drop_set, if_pos (by omega), if_neg (by omega)]
theorem win_getD (n : Nat) (l : List Int) (i : Nat) (h : 2 ≤ i) (h2 : i - 2 < n - 1) : (win n l).getD (i - 2) 0 = l.getD i 0 := by
 unfold win
 rw [List.getD_eq_getElem?_getD, List.getD_eq_getElem?_getD, List.getElem?_take, if_pos h2, List.getElem?_drop, show 2 + (i - 2) = i by omega]
theorem win_add (n : Nat) (A : List Int) (f : Nat) (nums : List Int) (k : Nat) : win n (addN A f nums (k + 1)) =
  if 2 ≤ f + k ∧ f + k - 2 < n - 1 then (win n (addN A f nums k)).set (f + k - 2) (max ((win n (addN A f nums k)).getD (f + k - 2) 0) (nums.getD k 0)) else win n (addN A f nums k) := by
 rw [addN, win_set]
 by_cases h : 2 ≤ f + k ∧ f + k - 2 < n - 1
 ·rw [if_pos h, if_pos h, win_getD _ _ _ h.1 h.2]
 ·rw [if_neg h, if_neg h]

/-- past the last place where its letters find room, a pattern hits no more -/
theorem onePat_past (w : List UInt8) (p : Pat) (A : List Int) (f : Nat) (hp : 1 ≤ p.letters.length) (hf : w.length < f + p.letters.length) : ∀ k, onePat w p A (f + k) = onePat w p A f := by
 intro k
 induction k with
 | zero => rfl
 | succ k ih =>
  rw [show f + (k + 1) = f + k + 1 by omega, onePat, stepF, if_neg, ih]
  unfold hits
  rw [Bool.not_eq_true, Bool.eq_false_iff]
  intro h
  have := (List.isPrefixOf_iff_prefix.1 h).length_le
  rw [List.length_drop] at this
  omega
theorem hits_take (w : List UInt8) (p : Pat) (f : Nat) : hits w p f = ((w.drop f).take p.letters.length == p.letters) := by
 unfold hits
 rw [Bool.eq_iff_iff, List.isPrefixOf_iff_prefix, List.prefix_iff_eq_take, beq_iff_eq]
 exact eq_comm

theorem asc_let : ∀ n : Nat, n < 128 → isLet n.toUInt8 = letter (n : Int) := by decide +kernel
theorem asc_low : ∀ n : Nat, n < 128 → lowB n.toUInt8 = (lower (n : Int)).toNat.toUInt8 := by decide +kernel
theorem enc_big {x : Int} (h : okv x) (hx : 128 ≤ x) : (encodeRune x).all isLet = false := by
 have key : ∃ c ∈ encodeRune x, 128 ≤ c.toNat := by
  have big : ∀ y : Int, 128 ≤ y → y < 256 → 128 ≤ (y.toNat.toUInt8).toNat := fun y h1 h2 => by
   rw [show (y.toNat.toUInt8).toNat = y.toNat % 256 by simp]; omega
  obtain ⟨-, hm, -⟩ := id h
  rcases encZ_cases h with ⟨h1, e⟩ | ⟨h1, h2, e⟩ | ⟨h1, h2, e⟩ | ⟨h1, e⟩
  ·omega
  ·exact ⟨_, by rw [encodeRune, e]; exact List.mem_cons_self, big _ (by omega) (by omega)⟩
  ·exact ⟨_, by rw [encodeRune, e]; exact List.mem_cons_self, big _ (by omega) (by omega)⟩
  ·exact ⟨_, by rw [encodeRune, e]; exact List.mem_cons_self, big _ (by omega) (by omega)⟩
 obtain ⟨c, hc, hc2⟩ := key
 rw [Bool.eq_false_iff]
 intro h2
 have h3 := List.all_eq_true.1 h2 c hc
 have h4 := let_byte c.toNat c.toNat_lt (by simpa using h3)
 omega
theorem let_enc {x : Int} (h : okv x) : (encodeRune x).all isLet = letter x := by
 by_cases hx : x < 128
 ·have h0 : 0 ≤ x := by unfold okv at h; omega
  obtain ⟨n, rfl⟩ : ∃ n : Nat, x = n := ⟨x.toNat, by omega⟩
  rw [enc_ascii n (by omega), List.all_cons, List.all_nil, Bool.and_true, asc_let n (by omega)]
 ·rw [enc_big h (by omega)]
  symm
  unfold letter lower
  simp; omega
theorem let_txt {L : List Int} (h : ∀ x ∈ L, okv x) : (txt L).all isLet = L.all letter := by
 induction L with
 | nil => rfl
 | cons x L ih => rw [txt_cons, List.all_append, List.all_cons, let_enc (h x (by simp)), ih (fun y hy => h y (by simp [hy]))]
def lowL (L : List Int) : List UInt8 := L.map fun x => (lower x).toNat.toUInt8
theorem letter_asc {x : Int} (h : letter x = true) : 65 ≤ x ∧ x ≤ 122 := by
 unfold letter lower at h
 simp at h
 omega
theorem low_txt {L : List Int} (h : L.all letter = true) : (txt L).map lowB = lowL L := by
 induction L with
 | nil => rfl
 | cons x L ih =>
  rw [List.all_cons, Bool.and_eq_true] at h
  have hb := letter_asc h.1
  obtain ⟨n, rfl⟩ : ∃ n : Nat, x = n := ⟨x.toNat, by omega⟩
  rw [txt_cons, List.map_append, ih h.2, enc_ascii n (by omega)]
  simp [lowL, asc_low n (by omega)]
theorem numbers_ref {L : List Int} (h : ∀ x ∈ L, okv x) : numbersL (txt L) = if L.all letter = true ∧ 2 ≤ L.length ∧ L.length ≤ 60 then numsOf (lowL L) else [] := by
 unfold numbersL smallL
 rw [let_txt h]
 by_cases hl : L.all letter = true
 ·have e1 := low_txt hl
  have e2 : (txt L).length = L.length := by
   have := congrArg List.length e1
   simpa [lowL] using this
  rw [e1, e2]
  by_cases hc : L.all letter = true ∧ 2 ≤ L.length ∧ L.length ≤ 60
  ·rw [if_pos hc, if_pos hc]
  ·rw [if_neg hc, if_neg hc]
 ·rw [if_neg (by rintro ⟨h1, -⟩; exact hl h1), if_neg (by rintro ⟨h1, -⟩; exact hl h1)]
end Go.Proofs.YtempicociampoaaGreatDoor
namespace Go.Proofs.YtempicociampoaaGreatDoor
open Go.RowKit Go.Shelf Go.Lib
attribute [local go_sem] Oper.semAt_some

def sgEnc (x : Int) : Array Value := #[.int .i64 x]
def SgR (b : Nat) (s : ByteArray) (W : World) : Prop := W.cell? ⟨b, 0, none⟩ = some (.string s)
theorem SgR.st {b : Nat} {s : ByteArray} (B : Nat) : St B (SgR b s) := fun _ _ hk h => hk.cell h

set_option maxRecDepth 100000 in
set_option maxHeartbeats 1000000 in
theorem signs1_seq (b : Nat) (s : ByteArray) (xs : List Int) (hx : ∀ x ∈ xs, okv x) (hs : s.data.toList = txt xs) :
  Seq Tryz.prog 114 #[.pointer (some ⟨b, 0, none⟩)] sgEnc (SgR b s) (fun pre x _ => pre ++ [x] <+: xs) (fun ys _ => ys = xs) (fun _ _ => True) := by
 intro l J Jx W hJ hJx hY h0 hR0
 have hR1 : W.cell? ⟨b, 0, none⟩ = some (.string s) := hR0
 refine calls_of_wpIn Tryz.func114 rfl ?_
 simp only [Tryz.ntmps114, List.size_toArray, List.length_cons, List.length_nil, Nat.reduceAdd, Nat.reduceSub, Array.replicate_succ, Array.replicate_zero, List.push_toArray, List.append_toArray, List.nil_append, List.cons_append]
 have kI : Kept W.heap.size W (W.iter s 0) := Kept.alloc _ _ _
 have hI0 : (W.iter s 0).heap[W.heap.size]? = some (.stringIter s 0) := World.iter_heap W s 0
 gi_wp2
 gi_loopw [4] (fun _ wr => ∃ k : Nat, k ≤ xs.length ∧ J (xs.take k) wr ∧ SgR b s wr ∧ wr.heap[W.heap.size]? = some (.stringIter s (txt (xs.take k)).length)) (fun _ wr => s.size - wr.iterPos W.heap.size)
 case atStart => exact ⟨0, Nat.zero_le _, hJ _ _ _ kI h0, SgR.st _ _ _ kI hR0, hI0⟩
 case round =>
  obtain ⟨k, hk, hJs, hRs, hit⟩ := hrel
  by_cases hlt : k < xs.length
  ·obtain ⟨hd, hlen, hpos⟩ := dec_at hx hs hlt
   have hnx := run_next_any_at (P := Tryz.prog) wr W.heap.size s (txt (xs.take k)).length 0 hit hpos
   have hk1 : xs.take (k + 1) = xs.take k ++ [xs[k]] := List.take_succ_eq_append_getElem hlt
   have hadm : xs.take k ++ [xs[k]] <+: xs := by rw [← hk1]; exact List.take_prefix _ _
   have hok := hx _ (List.getElem_mem hlt)
   obtain ⟨c1, c2, -⟩ := hok
   have hbl := (enc_len (hx _ (List.getElem_mem hlt))).1
   rw [hd] at hnx
   have ec : ((xs[k].toNat : Nat) : Int) = xs[k] := by omega
   simp only [ec] at hnx
   rw [← hlen] at hnx
   rw [← hk1] at hadm
   have Hk1 := hid hk1
   have Hlen := hid hlen
   clear hk1 hlen hd ec
   generalize xs[k] = x at *
   obtain ⟨W2, hW2⟩ : ∃ W2, wr.iterAt W.heap.size s (txt (xs.take (k + 1))).length = W2 := ⟨_, rfl⟩
   have kp : Kept W.heap.size wr W2 := by rw [← hW2]; exact Kept.putObj _ (Nat.le_refl _) hit rfl
   have hit2 : W2.heap[W.heap.size]? = some (.stringIter s (txt (xs.take (k + 1))).length) := by rw [← hW2]; exact iterAt_heap _ _ _ _ _ hit
   rw [hW2] at hnx
   clear hW2
   have hR2 := SgR.st _ _ _ kp hRs
   rw [Hk1.out] at hadm
   obtain ⟨fn, tmps, assign, body, hy, hR⟩ := hY _ x W2 (hJ _ _ _ kp hJs) hR2 hadm
   dsimp only [sgEnc] at hy
   gi_wp2
   refine ⟨rfl, hR.mono ?_⟩
   rintro e W3 (⟨rfl, hJ3, hR3, hkf⟩ | ⟨rfl, hJx3⟩)
   ·have hit3 := hkf.same _ _ (Nat.le_refl _) hit2 rfl
    gi_wp2
    go_roundw
    case rel => exact ⟨k + 1, by omega, by rw [Hk1.out]; exact hJ3, hR3, hit3⟩
    case measure => rw [iterPos_of hit3, iterPos_of hit, Hlen.out]; omega
   ·gi_wp2
    refine bodyPost_ret (results_none rfl _ _ _) rfl ?_
    exact ⟨⟨_, rfl⟩, .inr ⟨_, trivial, hJx3⟩⟩
  ·have hte : xs.take k = xs := List.take_of_length_le (by omega)
   rw [hte] at hit hJs
   have hnx := run_next_end_at (P := Tryz.prog) wr W.heap.size s (txt xs).length 0 hit (by rw [txt_size hs]; omega)
   gi_wp2
   go_end0
   exact ⟨⟨_, rfl⟩, .inl ⟨_, rfl, hJs, hRs⟩⟩
theorem Tryz.infoI : (Tryz.prog.info? 3).map (fun i => (i.zero, i.size, i.bytes)) = some (some (.int .i64 0), 1, 8) := by kernel_rfl

end Go.Proofs.YtempicociampoaaGreatDoor
