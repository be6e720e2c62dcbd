/- Short names for the steps of printed scripts (a claim's bytes are bounded). Lemmas of ours over any program: arrays of bytes held against each other; slices whose elements are rows of cells. The walks of keep's comparisons. The walks of utf's and the reference's small functions (by gen_utfa.py). Plain laws of a word's numbers: patterns, and where they lie. Plain laws of lines that are set: items, sums, pieces. Plain laws of UTF-8: a text is valid if and only if it is the signs' bytes, one sign behind the other; it is that of one list of signs alone. -/
import Derived.Deep.RegionHeld3
import Derived.Test.YtempicociampoaaGreatDoorRows
import Derived.WalkKit
import Derived.WalkSpells
import Derived.WalkLawsBesides
import Derived.Deep.MidRow
import Derived.Deep.QuietTactic
import Derived.BigQuiet
import Derived.Lib.MapLaws
import Derived.Lib.ValidU
import Derived.Lib.DecodeN
namespace Go.Proofs.YtempicociampoaaGreatDoor
open Go

theorem tkH {P : Program} {ops : Array Oper} {Q : Exit → Act → World → Prop} {md : Region.Mode} {S : World → Prop} (i : Nat) (d : Option Tmp) {o : Op} {t : TypeId} {p : String} {af : Array Edge} {gu : Option (Nat × Bool)} (v : Value) {fuel : Nat} {listed : Array Bool} {a : Act} {w : World} (hi : ops[i]? = some ⟨d, o, t, p, af, gu⟩)
  (hy : YieldsIf P ops S ⟨d, o, t, p, af, gu⟩ v a) (h : wpAnyH P md ops Q S fuel (listed.setIfInBounds i true) (a.put d v) w)
  (hs : Region.noSelect ops = true := by kernel_rfl) (hf : Region.free md ops listed i = true := by kernel_rfl) (hr : (Region.ready md ops listed).contains i = true := by kernel_rfl)
  (hQ : ∀ c a w, Q (.panic c) (a.put d v) w → Q (.panic c) a w := by exact fun _ _ _ h => h) (hS : S w := by assumption) : wpAnyH P md ops Q S (fuel + 1) listed a w :=
 wpAnyH_take hi hs hf hr hQ hy hS h
theorem tkA {P : Program} {ops : Array Oper} {Q : Exit → Act → World → Prop} {md : Region.Mode} (i : Nat) (d : Option Tmp) {o : Op} {t : TypeId} {p : String} {af : Array Edge} {gu : Option (Nat × Bool)} (v : Value) {fuel : Nat} {listed : Array Bool} {a : Act} {w : World} (hi : ops[i]? = some ⟨d, o, t, p, af, gu⟩)
  (hy : Yields P ops ⟨d, o, t, p, af, gu⟩ v a) (h : wpAny P md ops Q fuel (listed.setIfInBounds i true) (a.put d v) w)
  (hs : Region.noSelect ops = true := by kernel_rfl) (hf : Region.free md ops listed i = true := by kernel_rfl) (hr : (Region.ready md ops listed).contains i = true := by kernel_rfl)
  (hQ : ∀ c a w, Q (.panic c) (a.put d v) w → Q (.panic c) a w := by exact fun _ _ _ h => h) : wpAny P md ops Q (fuel + 1) listed a w :=
 wpAny_take hi hs hf hr hQ hy h
theorem aS {α : Type} (l : List α) (i : Nat) (x : α) : l.toArray.setIfInBounds i x = (l.set i x).toArray := List.setIfInBounds_toArray l i x
theorem aZ {α : Type} (y x : α) (l : List α) : (y :: l).set 0 x = x :: l := List.set_cons_zero
theorem aC {α : Type} (y x : α) (l : List α) (i : Nat) : (y :: l).set (i + 1) x = y :: l.set i x := List.set_cons_succ
end Go.Proofs.YtempicociampoaaGreatDoor
namespace Go.Proofs.YtempicociampoaaGreatDoor
open Go.RowKit

theorem ret_int {k : IntKind} {a b : Int} (h : a = b) : Ending.returned (.int k a) = .returned (.int k b) := by rw [h]
theorem ret_bool {a b : Bool} (h : a = b) : Ending.returned (.bool a) = .returned (.bool b) := by rw [h]
theorem hid {p : Prop} (h : p) : Hid p := h

section
variable {P : Program}
end

/-- slices of rows of cells, k cells each -/
def Sl {α : Type} (w : World) (k : Nat) (enc : α → List Value) (v : Value) (l : List α) : Prop :=
 (v = .slice none 0 0 ∧ l = []) ∨ ∃ (a : Addr) (cap : Nat), v = .slice (some a) l.length cap ∧ l.length ≤ cap ∧ cap ≤ maxLen ∧ (l ≠ [] → a.spot = none) ∧ ∀ i x, l[i]? = some x → w.rangeAt a.block (a.off + i * k) (enc x)

theorem Sl.mk {α : Type} {w : World} {k : Nat} {enc : α → List Value} {l : List α} {b o cap : Nat} (h1 : l.length ≤ cap) (h2 : cap ≤ maxLen) (h3 : ∀ i x, l[i]? = some x → w.rangeAt b (o + i * k) (enc x)) :
  Sl w k enc (.slice (some ⟨b, o, none⟩) l.length cap) l := .inr ⟨⟨b, o, none⟩, cap, rfl, h1, h2, fun _ => rfl, h3⟩

theorem Sl.shape {α : Type} {w : World} {k : Nat} {enc : α → List Value} {v : Value} {l : List α} (h : Sl w k enc v l) : ∃ p cap, v = .slice p l.length cap ∧ l.length ≤ maxLen := by
 rcases h with ⟨rfl, rfl⟩ | ⟨a, cap, rfl, h1, h2, _⟩
 ·exact ⟨none, 0, rfl, by simp [maxLen]⟩
 ·exact ⟨_, _, rfl, by omega⟩

theorem Sl.open {α : Type} {w : World} {k : Nat} {enc : α → List Value} {v : Value} {l : List α} (h : Sl w k enc v l) (hn : l ≠ []) :
  ∃ b o cap, v = .slice (some ⟨b, o, none⟩) l.length cap ∧ l.length ≤ cap ∧ cap ≤ maxLen ∧ ∀ i x, l[i]? = some x → w.rangeAt b (o + i * k) (enc x) := by
 rcases h with ⟨_, h⟩ | ⟨⟨b, o, sp⟩, cap, rfl, h1, h2, h3, h4⟩
 ·exact absurd h hn
 ·obtain rfl : sp = none := h3 hn
  exact ⟨b, o, cap, rfl, h1, h2, h4⟩

def encI (n : Int) : List Value := [.int .i64 n]

theorem rangeAt_one {w : World} {b o : Nat} {v : Value} (h : w.rangeAt b o [v]) : w.cell? ⟨b, o, none⟩ = some v := h 0 v rfl

/-- after some draws: kept from the walk -/
def Drew (w w' : World) : Prop := ∃ m, w' = w.drewN m
theorem Drew.refl (w : World) : Drew w w := ⟨0, rfl⟩
theorem Drew.trans {a b c : World} (h : Drew a b) (k : Drew b c) : Drew a c := by
 obtain ⟨m, rfl⟩ := h; obtain ⟨n, rfl⟩ := k; exact ⟨m + n, World.drewN_drewN ..⟩
theorem Drew.drewN {a b : World} (h : Drew a b) (n : Nat) : Drew a (b.drewN n) := h.trans ⟨n, rfl⟩
theorem Drew.cell {a b : World} (h : Drew a b) {p : Addr} {v : Value} (hc : a.cell? p = some v) : b.cell? p = some v := by obtain ⟨m, rfl⟩ := h; exact hc
theorem Drew.range {a b : World} (h : Drew a b) {k o : Nat} {cs : List Value} (hc : a.rangeAt k o cs) : b.rangeAt k o cs := by obtain ⟨m, rfl⟩ := h; exact hc
theorem Drew.sl {α : Type} {a b : World} (h : Drew a b) {k : Nat} {enc : α → List Value} {v : Value} {l : List α} (hs : Sl a k enc v l) : Sl b k enc v l := by obtain ⟨m, rfl⟩ := h; exact hs
theorem Drew.out {a b : World} (h : Drew a b) : ∃ m, b = a.drewN m := h
end Go.Proofs.YtempicociampoaaGreatDoor
namespace Go.Proofs.YtempicociampoaaGreatDoor
open Go.RowKit

end Go.Proofs.YtempicociampoaaGreatDoor
namespace Go.Proofs.YtempicociampoaaGreatDoor
open Go.RowKit

def lower (n : Int) : Int := if 65 ≤ n ∧ n ≤ 90 then n + 32 else n
def letter (n : Int) : Bool := decide (97 ≤ lower n ∧ lower n ≤ 122)
set_option maxHeartbeats 400000 in
theorem Lower_any (n : Int) (w : World) (h1 : -9223372036854775808 ≤ n) (h2 : n ≤ 9223372036854775807) :
  Calls Tryz.prog 130 #[.int .i64 n] w fun e w' => e = .returned (.int .i64 (lower n)) ∧ w = w' := by
 by_cases a : 65 ≤ n
 ·by_cases b : n ≤ 90
  ·go_enter Tryz.func130, Tryz.ntmps130
   go_wp2
   all_goals go_ret
   all_goals exact ⟨ret_int (by unfold lower; split <;> omega), rfl⟩
  ·go_enter Tryz.func130, Tryz.ntmps130
   go_wp2
   all_goals go_ret
   all_goals exact ⟨ret_int (by unfold lower; split <;> omega), rfl⟩
 ·go_enter Tryz.func130, Tryz.ntmps130
  go_wp2
  all_goals go_ret
  all_goals exact ⟨ret_int (by unfold lower; split <;> omega), rfl⟩

set_option maxHeartbeats 400000 in
theorem RLower_any (n : Int) (w : World) (h1 : -9223372036854775808 ≤ n) (h2 : n ≤ 9223372036854775807) :
  Calls Tryz.prog 110 #[.int .i64 n] w fun e w' => e = .returned (.int .i64 (lower n)) ∧ w = w' := by
 by_cases a : 65 ≤ n
 ·by_cases b : n ≤ 90
  ·go_enter Tryz.func110, Tryz.ntmps110
   go_wp2
   all_goals go_ret
   all_goals exact ⟨ret_int (by unfold lower; split <;> omega), rfl⟩
  ·go_enter Tryz.func110, Tryz.ntmps110
   go_wp2
   all_goals go_ret
   all_goals exact ⟨ret_int (by unfold lower; split <;> omega), rfl⟩
 ·go_enter Tryz.func110, Tryz.ntmps110
  go_wp2
  all_goals go_ret
  all_goals exact ⟨ret_int (by unfold lower; split <;> omega), rfl⟩

set_option maxHeartbeats 400000 in
theorem Letter_any (n : Int) (w : World) (h1 : -9223372036854775808 ≤ n) (h2 : n ≤ 9223372036854775807) :
  Calls Tryz.prog 129 #[.int .i64 n] w fun e w' => e = .returned (.bool (letter n)) ∧ w = w' := by
 have hx : ∀ x : Int, lower n = x → letter n = decide (97 ≤ x ∧ x ≤ 122) := fun x hx => by simp only [letter, hx]
 have hc : ∀ w, Calls Tryz.prog 130 #[.int .i64 n] w fun e w' => e = .returned (.int .i64 (lower n)) ∧ w = w' := fun w => Lower_any n w h1 h2
 obtain ⟨x, hl⟩ : ∃ x, lower n = x := ⟨_, rfl⟩
 have hr := hx x hl
 rw [hl] at hc
 rw [hr]
 have HC := hid hc
 clear hr hx hl hc
 by_cases a : 97 ≤ x
 ·by_cases b : x ≤ 122
  ·go_enter Tryz.func129, Tryz.ntmps129
   go_wp2_with (go_at_call 130; refine (HC.out _).mono ?_; rintro e w' ⟨rfl, rfl⟩)
   go_ret
   exact ⟨ret_bool (by simp [a, b]), rfl⟩
  ·go_enter Tryz.func129, Tryz.ntmps129
   go_wp2_with (go_at_call 130; refine (HC.out _).mono ?_; rintro e w' ⟨rfl, rfl⟩)
   go_ret
   exact ⟨ret_bool (by simp; omega), rfl⟩
 ·go_enter Tryz.func129, Tryz.ntmps129
  go_wp2_with (go_at_call 130; refine (HC.out _).mono ?_; rintro e w' ⟨rfl, rfl⟩)
  go_ret
  exact ⟨ret_bool (by simp; omega), rfl⟩

set_option maxHeartbeats 400000 in
theorem RLetter_any (n : Int) (w : World) (h1 : -9223372036854775808 ≤ n) (h2 : n ≤ 9223372036854775807) :
  Calls Tryz.prog 109 #[.int .i64 n] w fun e w' => e = .returned (.bool (letter n)) ∧ w = w' := by
 have hx : ∀ x : Int, lower n = x → letter n = decide (97 ≤ x ∧ x ≤ 122) := fun x hx => by simp only [letter, hx]
 have hc : ∀ w, Calls Tryz.prog 110 #[.int .i64 n] w fun e w' => e = .returned (.int .i64 (lower n)) ∧ w = w' := fun w => RLower_any n w h1 h2
 obtain ⟨x, hl⟩ : ∃ x, lower n = x := ⟨_, rfl⟩
 have hr := hx x hl
 rw [hl] at hc
 rw [hr]
 have HC := hid hc
 clear hr hx hl hc
 by_cases a : 97 ≤ x
 ·by_cases b : x ≤ 122
  ·go_enter Tryz.func109, Tryz.ntmps109
   go_wp2_with (go_at_call 110; refine (HC.out _).mono ?_; rintro e w' ⟨rfl, rfl⟩)
   go_ret
   exact ⟨ret_bool (by simp [a, b]), rfl⟩
  ·go_enter Tryz.func109, Tryz.ntmps109
   go_wp2_with (go_at_call 110; refine (HC.out _).mono ?_; rintro e w' ⟨rfl, rfl⟩)
   go_ret
   exact ⟨ret_bool (by simp; omega), rfl⟩
 ·go_enter Tryz.func109, Tryz.ntmps109
  go_wp2_with (go_at_call 110; refine (HC.out _).mono ?_; rintro e w' ⟨rfl, rfl⟩)
  go_ret
  exact ⟨ret_bool (by simp; omega), rfl⟩
end Go.Proofs.YtempicociampoaaGreatDoor
namespace Go.Proofs.YtempicociampoaaGreatDoor
open Go.RowKit

structure Pat where
 letters : List UInt8
 nums : List Int
 deriving DecidableEq

/-- a pattern's text, read byte by byte: a digit stands at the place behind the letters so far -/
def patStep (p : Pat) (c : UInt8) : Pat :=
 if 48 ≤ c.toNat ∧ c.toNat ≤ 57 then ⟨p.letters, p.nums.set p.letters.length (c.toNat - 48 : Int)⟩ else ⟨p.letters ++ [c], p.nums ++ [0]⟩
def patOf (s : List UInt8) : Pat := s.foldl patStep ⟨[], [0]⟩
theorem patOf_snoc (s : List UInt8) (c : UInt8) : patOf (s ++ [c]) = patStep (patOf s) c := by simp [patOf]
theorem patOf_len (s : List UInt8) : (patOf s).nums.length = (patOf s).letters.length + 1 ∧ (patOf s).letters.length ≤ s.length := by
 have key : ∀ (l : List UInt8) (p : Pat) (n : Nat), p.nums.length = p.letters.length + 1 → p.letters.length ≤ n →
   (l.foldl patStep p).nums.length = (l.foldl patStep p).letters.length + 1 ∧ (l.foldl patStep p).letters.length ≤ n + l.length := by
  intro l
  induction l with
  | nil => intro p n h k; exact ⟨h, k⟩
  | cons c l ih =>
   intro p n h k
   have := ih (patStep p c) (n + 1) (by unfold patStep; split <;> simp [h]) (by unfold patStep; split <;> simp <;> omega)
   rw [List.length_cons, show n + (l.length + 1) = n + 1 + l.length by omega]
   exact this
 have := key s ⟨[], [0]⟩ 0 rfl (Nat.le_refl _)
 rw [Nat.zero_add] at this
 exact this

/-- the eighteen -/
def patTexts : List (List UInt8) := [[46, 114, 101, 49], [46, 117, 110, 49], [49, 116, 105, 111, 110], [50, 115, 115, 50], [49, 110, 97], [49, 110, 101], [110, 49, 116], [116, 50, 116], [49, 109, 97], [108, 49, 108], [50, 105, 110, 103], [49, 100, 101], [101, 114, 49], [49, 108, 121, 46], [49, 99, 97], [49, 99, 111], [111, 49, 114], [49, 112, 97]]
def pats : List Pat := patTexts.map patOf

/-- a pattern's numbers laid in from a place on -/
def addN (at_ : List Int) (from_ : Nat) (nums : List Int) : Nat → List Int
 | 0 => at_
 | k + 1 => (addN at_ from_ nums k).set (from_ + k) (max ((addN at_ from_ nums k).getD (from_ + k) 0) (nums.getD k 0))
theorem addN_len (at_ : List Int) (from_ : Nat) (nums : List Int) : ∀ k, (addN at_ from_ nums k).length = at_.length := by
 intro k; induction k with
 | zero => rfl
 | succ k ih => simp [addN, ih]
def hits (w : List UInt8) (p : Pat) (f : Nat) : Bool := p.letters.isPrefixOf (w.drop f)
def stepF (w : List UInt8) (p : Pat) (at_ : List Int) (f : Nat) : List Int := if hits w p f then addN at_ f p.nums p.nums.length else at_
/-- one pattern at the first f places -/
def onePat (w : List UInt8) (p : Pat) (at_ : List Int) : Nat → List Int
 | 0 => at_
 | f + 1 => stepF w p (onePat w p at_ f) f
theorem stepF_len (w : List UInt8) (p : Pat) (at_ : List Int) (f : Nat) : (stepF w p at_ f).length = at_.length := by unfold stepF; split <;> simp [addN_len]
theorem onePat_len (w : List UInt8) (p : Pat) (at_ : List Int) : ∀ f, (onePat w p at_ f).length = at_.length := by
 intro f; induction f with
 | zero => rfl
 | succ f ih => rw [onePat, stepF_len, ih]
def allPats (w : List UInt8) (ps : List Pat) : List Int := ps.foldl (fun a p => onePat w p a w.length) (List.replicate (w.length + 1) 0)
theorem allPats_snoc (w : List UInt8) (ps : List Pat) (p : Pat) : allPats w (ps ++ [p]) = onePat w p (allPats w ps) w.length := by simp [allPats]
theorem allPats_len (w : List UInt8) (ps : List Pat) : (allPats w ps).length = w.length + 1 := by
 unfold allPats
 have key : ∀ (ps : List Pat) (a : List Int), (ps.foldl (fun a p => onePat w p a w.length) a).length = a.length := by
  intro ps; induction ps with
  | nil => intro a; rfl
  | cons p ps ih => intro a; rw [List.foldl_cons, ih, onePat_len]
 rw [key]; simp

def lowB (c : UInt8) : UInt8 := if 65 ≤ c.toNat ∧ c.toNat ≤ 90 then c + 32 else c
def isLet (c : UInt8) : Bool := decide (97 ≤ (lowB c).toNat ∧ (lowB c).toNat ≤ 122)
def dotted (lw : List UInt8) : List UInt8 := 46 :: (lw ++ [46])
def numsOf (lw : List UInt8) : List Int := ((allPats (dotted lw) pats).drop 2).take (lw.length - 1)
theorem numsOf_len {lw : List UInt8} (h : 1 ≤ lw.length) : (numsOf lw).length = lw.length - 1 := by
 unfold numsOf; simp [allPats_len, dotted]; omega
/-- a word in small letters, if it may have numbers -/
def smallL (s : List UInt8) : Option (List UInt8) := if s.all isLet = true ∧ 2 ≤ s.length ∧ s.length ≤ 60 then some (s.map lowB) else none
def numbersL (s : List UInt8) : List Int := match smallL s with | none => [] | some lw => numsOf lw

/-- behind how many letters: the first k numbers -/
def pointsTo (nums : List Int) : Nat → List Int
 | 0 => []
 | k + 1 => pointsTo nums k ++ (if nums.getD k 0 % 2 = 1 ∧ 2 ≤ k + 1 ∧ k + 1 + 3 ≤ nums.length + 1 then [((k : Int) + 1)] else [])
def pointsL (nums : List Int) : List Int := if nums.length + 1 < 5 then [] else pointsTo nums nums.length

/-- all that is laid in is from 0 to 9 -/
def dig (l : List Int) : Prop := ∀ x ∈ l, 0 ≤ x ∧ x ≤ 9
theorem dig_set {l : List Int} (h : dig l) {v : Int} (hv : 0 ≤ v ∧ v ≤ 9) (i : Nat) : dig (l.set i v) := by
 intro x hx
 rcases List.mem_or_eq_of_mem_set hx with h1 | h1
 ·exact h x h1
 ·rw [h1]; exact hv
theorem dig_getD {l : List Int} (h : dig l) (i : Nat) : 0 ≤ l.getD i 0 ∧ l.getD i 0 ≤ 9 := by
 rw [List.getD_eq_getElem?_getD]
 cases hi : l[i]? with
 | none => simp
 | some x => exact h x (List.mem_of_getElem? hi)
theorem dig_addN {l : List Int} (h : dig l) {nums : List Int} (hn : dig nums) (f : Nat) : ∀ k, dig (addN l f nums k) := by
 intro k; induction k with
 | zero => exact h
 | succ k ih =>
  refine dig_set ih ?_ _
  have h1 := dig_getD ih (f + k)
  have h2 := dig_getD hn k
  omega
theorem dig_onePat {w : List UInt8} {p : Pat} (hp : dig p.nums) {l : List Int} (h : dig l) : ∀ f, dig (onePat w p l f) := by
 intro f; induction f with
 | zero => exact h
 | succ f ih =>
  unfold onePat stepF
  split
  ·exact dig_addN ih hp _ _
  ·exact ih
theorem pats_dig : ∀ p ∈ pats, dig p.nums := by
 have : (pats.all fun p => p.nums.all fun x => decide (0 ≤ x ∧ x ≤ 9)) = true := by decide
 intro p hp x hx
 have h1 := List.all_eq_true.1 this p hp
 have h2 := List.all_eq_true.1 h1 x hx
 simpa using h2
theorem dig_allPats (w : List UInt8) {ps : List Pat} (h : ∀ p ∈ ps, dig p.nums) : dig (allPats w ps) := by
 unfold allPats
 have key : ∀ (ps : List Pat) (a : List Int), (∀ p ∈ ps, dig p.nums) → dig a → dig (ps.foldl (fun a p => onePat w p a w.length) a) := by
  intro ps; induction ps with
  | nil => intro a _ h; exact h
  | cons p ps ih => intro a hp ha; exact ih _ (fun q hq => hp q (by simp [hq])) (dig_onePat (hp p (by simp)) ha _)
 exact key ps _ h (fun x hx => by rw [List.eq_of_mem_replicate hx]; omega)
theorem dig_numsOf (lw : List UInt8) : dig (numsOf lw) := fun x hx => dig_allPats _ pats_dig x (List.mem_of_mem_drop (List.mem_of_mem_take hx))
end Go.Proofs.YtempicociampoaaGreatDoor
namespace Go.Proofs.YtempicociampoaaGreatDoor
open Go.RowKit

structure It where
 kind : Int
 w : Int
 y : Int
 z : Int
 cost : Int
 text : ByteArray

def encIt (x : It) : List Value := [.int .i64 x.kind, .int .i64 x.w, .int .i64 x.y, .int .i64 x.z, .int .i64 x.cost, .string x.text]
def encPc (x : Int × ByteArray) : List Value := [.int .i64 x.1, .string x.2]

/-- numbers that a machine's word holds -/
def w64 (n : Int) : Prop := -9223372036854775808 ≤ n ∧ n ≤ 9223372036854775807
def It.ok (x : It) : Prop := w64 x.kind ∧ w64 x.w ∧ w64 x.y ∧ w64 x.z ∧ w64 x.cost

def plain (n : Int) : Int := if 0 ≤ n ∧ n ≤ 10000 then n else 0
theorem plain_bd (n : Int) : 0 ≤ plain n ∧ plain n ≤ 10000 := by unfold plain; split <;> omega
theorem plain_eq {n : Int} (h1 : 0 ≤ n) (h2 : n ≤ 10000) : plain n = n := if_pos ⟨h1, h2⟩
theorem plain_out {n : Int} (h : n < 0 ∨ 10000 < n) : plain n = 0 := if_neg (by omega)

/-- the first Box from k on -/
def fst (l : List It) (k : Nat) : Nat := min (k + (l.drop k).findIdx (fun x => x.kind == 1)) l.length
theorem fst_end {l : List It} {k : Nat} (h : l.length ≤ k) : fst l k = l.length := by unfold fst; omega
theorem fst_hit {l : List It} {k : Nat} (h : k < l.length) (hk : l[k].kind = 1) : fst l k = k := by
 unfold fst
 rw [List.drop_eq_getElem_cons h, List.findIdx_cons]
 simp [hk]; omega
theorem fst_next {l : List It} {k : Nat} (h : k < l.length) (hk : ¬ l[k].kind = 1) : fst l k = fst l (k + 1) := by
 unfold fst
 rw [List.drop_eq_getElem_cons h, List.findIdx_cons]
 have : (l[k].kind == 1) = false := by simpa using hk
 simp [this]; omega
theorem fst_le (l : List It) (k : Nat) : fst l k ≤ l.length := by unfold fst; omega
/-- where First begins: behind a break -/
def from1 (n : Int) (len : Nat) : Nat := (max (-1) (min n len) + 1).toNat
def firstL (l : List It) (n : Int) : Nat := fst l (from1 n l.length)
def upto (n : Int) (len : Nat) : Nat := (max 0 (min n len)).toNat

structure Sm where
 w : Int
 y : Int
 z : Int
 deriving DecidableEq
def Sm.step (s : Sm) (x : It) : Sm := ⟨if x.kind = 3 then s.w else s.w + plain x.w, s.y + plain x.y, s.z + plain x.z⟩
def smOf (l : List It) : Sm := l.foldl Sm.step ⟨0, 0, 0⟩
theorem smOf_snoc (l : List It) (x : It) : smOf (l ++ [x]) = (smOf l).step x := by simp [smOf]
def Sm.bd (s : Sm) (n : Nat) : Prop := (0 ≤ s.w ∧ s.w ≤ 10000 * n) ∧ (0 ≤ s.y ∧ s.y ≤ 10000 * n) ∧ (0 ≤ s.z ∧ s.z ≤ 10000 * n)
theorem Sm.bd_step {s : Sm} {n : Nat} (h : s.bd n) (x : It) : (s.step x).bd (n + 1) := by
 have h1 := plain_bd x.w
 have h2 := plain_bd x.y
 have h3 := plain_bd x.z
 obtain ⟨⟨a, b⟩, ⟨c, d⟩, ⟨e, f⟩⟩ := h
 refine ⟨?_, ?_, ?_⟩
 ·show 0 ≤ (if x.kind = 3 then s.w else s.w + plain x.w) ∧ (if x.kind = 3 then s.w else s.w + plain x.w) ≤ _
  split <;> omega
 ·show 0 ≤ s.y + plain x.y ∧ s.y + plain x.y ≤ _; omega
 ·show 0 ≤ s.z + plain x.z ∧ s.z + plain x.z ≤ _; omega
theorem smOf_bd (l : List It) : (smOf l).bd l.length := by
 have key : ∀ (l : List It) (s : Sm) (n : Nat), s.bd n → (l.foldl Sm.step s).bd (n + l.length) := by
  intro l
  induction l with
  | nil => intro s n h; exact h
  | cons x l ih =>
   intro s n h
   have := ih _ _ (Sm.bd_step h x)
   rw [List.length_cons, show n + (l.length + 1) = n + 1 + l.length by omega]
   exact this
 have := key l ⟨0, 0, 0⟩ 0 ⟨by simp, by simp, by simp⟩
 rwa [Nat.zero_add] at this

/-- the items from f up to t -/
def mid (l : List It) (f t : Nat) : List It := (l.take t).drop f
theorem mid_self (l : List It) (f : Nat) : mid l f f = [] := by
 unfold mid; rw [List.drop_eq_nil_iff]; simp; omega
theorem mid_succ {l : List It} {f t : Nat} (h : f ≤ t) (ht : t < l.length) : mid l f (t + 1) = mid l f t ++ [l[t]] := by
 unfold mid
 rw [List.take_succ_eq_append_getElem ht, List.drop_append_of_le_length (by simp; omega)]
theorem mid_len (l : List It) (f t : Nat) : (mid l f t).length ≤ l.length := by unfold mid; simp; omega
theorem smMid_bd (l : List It) (f t : Nat) : (smOf (mid l f t)).bd l.length := by
 obtain ⟨⟨a, b⟩, ⟨c, d⟩, ⟨e, g⟩⟩ := smOf_bd (mid l f t)
 have := mid_len l f t
 refine ⟨⟨a, by omega⟩, ⟨c, by omega⟩, ⟨e, by omega⟩⟩

def isPen (l : List It) (t : Nat) : Bool := match l[t]? with | some x => x.kind == 3 | none => false
def penW (l : List It) (t : Nat) : Int := match l[t]? with | some x => if x.kind = 3 then plain x.w else 0 | none => 0
theorem penW_bd (l : List It) (t : Nat) : 0 ≤ penW l t ∧ penW l t ≤ 10000 := by
 unfold penW; split
 ·split
  ·exact plain_bd _
  ·omega
 ·omega
theorem penW_yes {l : List It} {t : Nat} (h : t < l.length) (hk : l[t].kind = 3) : penW l t = plain l[t].w := by
 unfold penW; rw [List.getElem?_eq_getElem h]; exact if_pos hk
theorem penW_no {l : List It} {t : Nat} (h : t < l.length) (hk : ¬ l[t].kind = 3) : penW l t = 0 := by
 unfold penW; rw [List.getElem?_eq_getElem h]; exact if_neg hk
theorem penW_end {l : List It} {t : Nat} (h : l.length ≤ t) : penW l t = 0 := by
 unfold penW; rw [List.getElem?_eq_none h]
def lineSm (l : List It) (f t : Nat) : Sm := if f < t then ⟨(smOf (mid l f t)).w + penW l t, (smOf (mid l f t)).y, (smOf (mid l f t)).z⟩ else ⟨0, 0, 0⟩
theorem lineSm_bd (l : List It) (f t : Nat) : (lineSm l f t).bd (l.length + 1) := by
 obtain ⟨⟨a, b⟩, ⟨c, d⟩, ⟨e, g⟩⟩ := smMid_bd l f t
 have := penW_bd l t
 unfold lineSm; split
 ·exact ⟨⟨by simp only []; omega, by simp only []; omega⟩, ⟨by simp only []; omega, by simp only []; omega⟩, ⟨by simp only []; omega, by simp only []; omega⟩⟩
 ·exact ⟨⟨by simp, by simp only []; omega⟩, ⟨by simp, by simp only []; omega⟩, ⟨by simp, by simp only []; omega⟩⟩

def spread (d a all : Int) : Int := if all = 0 then 0 else (d * a).tdiv all
def moved (d : Int) (s a : Sm) : Int := if 0 ≤ d then spread d a.y s.y else -(spread (min (-d) s.z) a.z s.z)

/-- pieces of items, with what stands ahead -/
def pcs (d : Int) (s : Sm) : Sm → List It → List (Int × ByteArray)
 | _, [] => []
 | a, x :: r => if x.kind = 1 ∧ x.text.size ≠ 0 then (a.w + moved d s a, x.text) :: pcs d s (a.step x) r else pcs d s (a.step x) r
theorem pcs_append (d : Int) (s : Sm) : ∀ (l m : List It) (a : Sm), pcs d s a (l ++ m) = pcs d s a l ++ pcs d s (l.foldl Sm.step a) m := by
 intro l
 induction l with
 | nil => intro m a; rfl
 | cons x l ih =>
  intro m a
  simp only [List.cons_append, pcs, List.foldl_cons]
  split
  ·simp [ih]
  ·exact ih _ _
def pcsOf (d : Int) (s : Sm) (l : List It) : List (Int × ByteArray) := pcs d s ⟨0, 0, 0⟩ l
theorem pcsOf_hit (d : Int) (s : Sm) (l : List It) (x : It) (h : x.kind = 1) (ht : x.text.size ≠ 0) : pcsOf d s (l ++ [x]) = pcsOf d s l ++ [((smOf l).w + moved d s (smOf l), x.text)] := by
 unfold pcsOf; rw [pcs_append]; congr 1; simp only [pcs, if_pos (And.intro h ht)]; rfl
theorem pcsOf_miss (d : Int) (s : Sm) (l : List It) (x : It) (h : ¬ (x.kind = 1 ∧ x.text.size ≠ 0)) : pcsOf d s (l ++ [x]) = pcsOf d s l := by
 unfold pcsOf; rw [pcs_append]; simp only [pcs, if_neg h, List.append_nil]
def dash : ByteArray := ⟨#[45]⟩
def allPcs (d : Int) (s : Sm) (l : List It) (f t : Nat) : List (Int × ByteArray) :=
 pcsOf d s (mid l f t) ++ (if isPen l t then [((smOf (mid l f t)).w + moved d s (smOf (mid l f t)), dash)] else [])
theorem isPen_yes {l : List It} {t : Nat} (h : t < l.length) (hk : l[t].kind = 3) : isPen l t = true := by
 unfold isPen; rw [List.getElem?_eq_getElem h]; simpa using hk
theorem isPen_no {l : List It} {t : Nat} (h : t < l.length) (hk : ¬ l[t].kind = 3) : isPen l t = false := by
 unfold isPen; rw [List.getElem?_eq_getElem h]; simpa using hk
theorem isPen_end {l : List It} {t : Nat} (h : l.length ≤ t) : isPen l t = false := by
 unfold isPen; rw [List.getElem?_eq_none h]

def needOf (width : Int) (last : Bool) (s : Sm) : Int := if last then min (plain width - s.w) 0 else plain width - s.w
def setL (l : List It) (from_ till width : Int) (last : Bool) : List (Int × ByteArray) :=
 if firstL l from_ < upto till l.length then
  allPcs (needOf width last (lineSm l (firstL l from_) (upto till l.length))) (lineSm l (firstL l from_) (upto till l.length)) l (firstL l from_) (upto till l.length)
 else []
end Go.Proofs.YtempicociampoaaGreatDoor
namespace Go.Proofs.YtempicociampoaaGreatDoor
open Go.Lib

def okv (v : Int) : Prop := 0 ≤ v ∧ v ≤ 1114111 ∧ ¬ (55296 ≤ v ∧ v ≤ 57343)
instance (v : Int) : Decidable (okv v) := by unfold okv; infer_instance
/-- the text of signs -/
def txt (xs : List Int) : List UInt8 := xs.flatMap encodeRune

theorem encZ_cases {v : Int} (h : okv v) :
  (v ≤ 127 ∧ encodeRuneZ v = [v]) ∨ (128 ≤ v ∧ v ≤ 2047 ∧ encodeRuneZ v = [192 + v / 64, 128 + v % 64]) ∨
  (2048 ≤ v ∧ v ≤ 65535 ∧ encodeRuneZ v = [224 + v / 4096, 128 + v / 64 % 64, 128 + v % 64]) ∨
  (65536 ≤ v ∧ encodeRuneZ v = [240 + v / 262144, 128 + v / 4096 % 64, 128 + v / 64 % 64, 128 + v % 64]) := by
 obtain ⟨h1, h2, h3⟩ := h
 unfold encodeRuneZ
 by_cases c1 : v ≤ 127
 ·left; exact ⟨c1, by rw [if_pos ⟨h1, c1⟩]⟩
 ·right
  rw [if_neg (by omega)]
  by_cases c2 : v ≤ 2047
  ·left; exact ⟨by omega, c2, by rw [if_pos (by omega)]⟩
  ·right
   rw [if_neg (by omega)]
   by_cases c3 : v ≤ 65535
   ·left; exact ⟨by omega, c3, by rw [if_pos (by omega)]⟩
   ·right; exact ⟨by omega, by rw [if_neg (by omega), if_pos (by omega)]⟩

theorem dL (l : List UInt8) : decodeL l = decodeN l.length (l.getD 0 0).toNat (l.getD 1 0).toNat (l.getD 2 0).toNat (l.getD 3 0).toNat := by
 unfold decodeL
 rw [decode_at]
 have g : ∀ k, (⟨l.toArray⟩ : ByteArray).get! k = l.getD k 0 := fun k => by
  show l.toArray[k]! = _
  simp [List.getD]
  cases l[k]? <;> rfl
 simp only [g]
 rfl

theorem b8 {z : Int} (h0 : 0 ≤ z) (h1 : z ≤ 255) : (z.toNat.toUInt8).toNat = z.toNat := by
 rw [Nat.toUInt8, UInt8.toNat_ofNat']; omega

theorem enc_len {v : Int} (h : okv v) : 1 ≤ (encodeRune v).length ∧ (encodeRune v).length ≤ 4 := by
 rcases encZ_cases h with ⟨_, e⟩ | ⟨_, _, e⟩ | ⟨_, _, e⟩ | ⟨_, e⟩ <;> simp [encodeRune, e]

/-- what is decoded at the head of a sign's bytes is the sign -/
theorem dec_enc {v : Int} (h : okv v) (t : List UInt8) : decodeL (encodeRune v ++ t) = (v.toNat, (encodeRune v).length) := by
 rw [dL]
 have h' := h
 obtain ⟨h1, h2, h3⟩ := h'
 rcases encZ_cases h with ⟨c, e⟩ | ⟨c1, c2, e⟩ | ⟨c1, c2, e⟩ | ⟨c, e⟩
 ·simp only [encodeRune, e, List.map_cons, List.map_nil, List.cons_append, List.nil_append, List.getD_cons_zero, List.length_cons, List.length_nil]
  rw [b8 (by omega) (by omega)]
  unfold decodeN
  rw [if_pos (by omega)]
 ·simp only [encodeRune, e, List.map_cons, List.map_nil, List.cons_append, List.nil_append, List.getD_cons_zero, List.getD_cons_succ, List.length_cons, List.length_nil]
  rw [b8 (by omega) (by omega), b8 (by omega) (by omega)]
  unfold decodeN
  rw [if_neg (by omega), if_pos (by omega), if_pos (by omega)]
  refine Prod.ext ?_ rfl
  show (192 + v / 64).toNat % 32 * 64 + (128 + v % 64).toNat % 64 = v.toNat
  omega
 ·simp only [encodeRune, e, List.map_cons, List.map_nil, List.cons_append, List.nil_append, List.getD_cons_zero, List.getD_cons_succ, List.length_cons, List.length_nil]
  rw [b8 (by omega) (by omega), b8 (by omega) (by omega), b8 (by omega) (by omega)]
  have e0 : (224 + v / 4096).toNat % 16 * 4096 + (128 + v / 64 % 64).toNat % 64 * 64 + (128 + v % 64).toNat % 64 = v.toNat := by omega
  unfold decodeN
  rw [if_neg (by omega), if_neg (by omega), if_pos (by omega), if_pos (by omega), e0]
 ·simp only [encodeRune, e, List.map_cons, List.map_nil, List.cons_append, List.nil_append, List.getD_cons_zero, List.getD_cons_succ, List.length_cons, List.length_nil]
  rw [b8 (by omega) (by omega), b8 (by omega) (by omega), b8 (by omega) (by omega), b8 (by omega) (by omega)]
  have e0 : (240 + v / 262144).toNat % 8 * 262144 + (128 + v / 4096 % 64).toNat % 64 * 4096 + (128 + v / 64 % 64).toNat % 64 * 64 + (128 + v % 64).toNat % 64 = v.toNat := by omega
  unfold decodeN
  rw [if_neg (by omega), if_neg (by omega), if_neg (by omega), if_pos (by omega), if_pos (by omega), e0]

theorem enc_one {v : Int} (h : okv v) : ¬ (v = 65533 ∧ (encodeRune v).length = 1) := by
 rintro ⟨rfl, h2⟩
 simp [encodeRune, encodeRuneZ] at h2

/-- what decodes well is a sign -/
theorem dec_ok (l : List UInt8) (h : ¬ ((decodeL l).1 = 65533 ∧ (decodeL l).2 = 1)) : okv ((decodeL l).1 : Int) := by
 rw [dL] at h ⊢
 unfold okv
 rcases decodeN_shape l.length (l.getD 0 0).toNat (l.getD 1 0).toNat (l.getD 2 0).toNat (l.getD 3 0).toNat with ⟨a, e⟩ | ⟨a, _, b, c, e⟩ | ⟨a, _, b, c, d, f, e⟩ | ⟨a, _, b, c, d, f, g, e⟩ | e
 ·rw [e]; simp only []; omega
 ·rw [e]; simp only []; omega
 ·rw [e]; simp only []; omega
 ·rw [e]; simp only []; omega
 ·exact absurd ⟨by rw [e], by rw [e]⟩ h

theorem txt_cons (x : Int) (xs : List Int) : txt (x :: xs) = encodeRune x ++ txt xs := rfl
theorem txt_append (a b : List Int) : txt (a ++ b) = txt a ++ txt b := by simp [txt]

theorem validGo_iff : ∀ (n : Nat) (l : List UInt8), l.length ≤ n → (validGoD n l = true ↔ ∃ xs : List Int, (∀ x ∈ xs, okv x) ∧ l = txt xs)
 | 0, l, h => by
  obtain rfl : l = [] := by simpa using h
  simp only [validGoD, true_iff]
  exact ⟨[], by simp, rfl⟩
 | n + 1, l, h => by
  unfold validGoD
  by_cases h0 : l = []
  ·rw [if_pos h0]; subst h0
   exact ⟨fun _ => ⟨[], by simp, rfl⟩, fun _ => rfl⟩
  ·rw [if_neg h0]
   have hle := decodeL_le l h0
   have hw := decodeL_width l
   by_cases hb : (decodeL l).1 = 65533 ∧ (decodeL l).2 = 1
   ·rw [if_pos hb]
    refine ⟨fun h => (by cases h), ?_⟩
    rintro ⟨xs, hx, rfl⟩
    cases xs with
    | nil => exact absurd rfl h0
    | cons x xs =>
     rw [txt_cons, dec_enc (hx x (by simp))] at hb
     exact absurd ⟨by have := (hx x (by simp)).1; have := hb.1; omega, hb.2⟩ (enc_one (hx x (by simp)))
   ·rw [if_neg hb, validGo_iff n _ (by simp; omega)]
    constructor
    ·rintro ⟨xs, hx, e⟩
     refine ⟨((decodeL l).1 : Int) :: xs, ?_, ?_⟩
     ·intro x hx2
      rcases List.mem_cons.1 hx2 with rfl | hx2
      ·exact dec_ok l hb
      ·exact hx x hx2
     ·rw [txt_cons, encode_decode l h0 hb, ← e, List.take_append_drop]
    ·rintro ⟨xs, hx, rfl⟩
     cases xs with
     | nil => exact absurd rfl h0
     | cons x xs =>
      refine ⟨xs, fun y hy => hx y (by simp [hy]), ?_⟩
      rw [txt_cons, dec_enc (hx x (by simp))]
      simp

/-- A TEXT IS VALID JUST WHERE IT IS THE TEXT OF SIGNS. -/
theorem valid_iff (l : List UInt8) : validD l = true ↔ ∃ xs : List Int, (∀ x ∈ xs, okv x) ∧ l = txt xs := validGo_iff _ _ (Nat.le_refl _)

/-- .. of one list of signs alone -/
theorem txt_inj : ∀ {xs ys : List Int}, (∀ x ∈ xs, okv x) → (∀ y ∈ ys, okv y) → txt xs = txt ys → xs = ys
 | [], [], _, _, _ => rfl
 | [], y :: ys, _, hy, h => by
  have := (enc_len (hy y (by simp))).1
  have h2 := congrArg List.length h
  rw [txt_cons] at h2
  simp [txt] at h2
  omega
 | x :: xs, [], hx, _, h => by
  have h1 := (enc_len (hx x (by simp))).1
  have h2 := congrArg List.length h
  rw [txt_cons, List.length_append] at h2
  have h3 : (txt []).length = 0 := rfl
  omega
 | x :: xs, y :: ys, hx, hy, h => by
  rw [txt_cons, txt_cons] at h
  have h1 := dec_enc (hx x (by simp)) (txt xs)
  rw [h, dec_enc (hy y (by simp))] at h1
  have e1 : x = y := by
   have := congrArg Prod.fst h1
   have a := (hx x (by simp)).1
   have b := (hy y (by simp)).1
   simp only [] at this
   omega
  subst e1
  have e2 := List.append_cancel_left h
  rw [txt_inj (fun z hz => hx z (by simp [hz])) (fun z hz => hy z (by simp [hz])) e2]

theorem dec_drop (s : ByteArray) (p : Nat) : Go.Utf8.decode s p = decodeL (s.data.toList.drop p) := by
 rw [dL, decode_at]
 have g : ∀ k, s.get! (p + k) = (s.data.toList.drop p).getD k 0 := fun k => by
  show s.data[p + k]! = _
  have h : (s.data.toList.drop p)[k]? = s.data[p + k]? := by simp
  rw [List.getD_eq_getElem?_getD, h, getElem!_def]
  cases s.data[p + k]? <;> rfl
 have g0 := g 0
 simp only [Nat.add_zero] at g0
 rw [g0, g 1, g 2, g 3]
 simp

/-- the sign at the place where those of the first k end -/
theorem dec_at {s : ByteArray} {xs : List Int} (hx : ∀ x ∈ xs, okv x) (hs : s.data.toList = txt xs) {k : Nat} (hk : k < xs.length) :
  Go.Utf8.decode s (txt (xs.take k)).length = (xs[k].toNat, (encodeRune xs[k]).length) ∧ (txt (xs.take (k + 1))).length = (txt (xs.take k)).length + (encodeRune xs[k]).length ∧ (txt (xs.take k)).length < s.size := by
 have e : s.data.toList = txt (xs.take k) ++ (encodeRune xs[k] ++ txt (xs.drop (k + 1))) := by
  rw [hs, ← txt_cons, List.getElem_cons_drop hk, ← txt_append, List.take_append_drop]
 have hl := (enc_len (hx _ (List.getElem_mem hk))).1
 refine ⟨?_, ?_, ?_⟩
 ·rw [dec_drop, e, List.drop_left]
  exact dec_enc (hx _ (List.getElem_mem hk)) _
 ·rw [List.take_succ_eq_append_getElem hk, txt_append]
  simp [txt]
 ·have h2 := congrArg List.length e
  have h3 : s.data.toList.length = s.size := rfl
  simp only [List.length_append] at h2
  omega
theorem txt_size {s : ByteArray} {xs : List Int} (hs : s.data.toList = txt xs) : (txt xs).length = s.size := by rw [← hs]; rfl
end Go.Proofs.YtempicociampoaaGreatDoor
