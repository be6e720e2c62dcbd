/- Plain laws of the reference's Line. -/
import Derived.Test.YtkmnmigpnbehaaaDoorScW
namespace Go.Proofs.YtkmnmigpnbehaaaDoor
open Go.RowKit Go.Shelf Go.Lib

def gotC (x : OpB) (b : Bool) : Array Value := #[.int .i64 x.k, .int .i64 x.r, .int .i64 x.o, .int .i64 x.n, .string x.s, .int .i64 x.w, .int .i64 x.h, .int .i64 x.t, .int .i64 x.c, .int .i64 x.i, .bool b]
/-- the number of a word, none of what is none -/
def numD (ws : List L8) (i : Nat) : Int := match ws[i]? with
  | some w => match numS w with | some n => (n : Int) | none => 0
  | none => 0
def nameOf (k : Nat) : L8 := ([[], [112, 117, 98, 108, 105, 115, 104], [99, 104, 101, 99, 107, 111, 117, 116], [112, 97, 103, 101], [108, 111, 103], [100, 105, 102, 102], [100, 101, 108, 101, 116, 101], [99, 111, 108, 108, 101, 99, 116], [115, 116, 97, 116]] : List L8).getD k []
theorem name_form {k : Nat} (h1 : 1 ≤ k) (h8 : k ≤ 8) : ∃ f ∈ formsL, f.1 = (k : Int) ∧ f.2.1 = nameOf k := by
  have : ∀ k : Nat, 1 ≤ k → k ≤ 8 → ∃ f, formsL[k - 1]? = some f ∧ f.1 = (k : Int) ∧ f.2.1 = nameOf k := by
    intro k h1 h8
    match k, h1, h8 with
    | 1, _, _ | 2, _, _ | 3, _, _ | 4, _, _ | 5, _, _ | 6, _, _ | 7, _, _ | 8, _, _ => exact ⟨_, rfl, rfl, rfl⟩
    | k + 9, _, h => omega
  obtain ⟨f, hf, h⟩ := this k h1 h8
  exact ⟨f, List.mem_of_getElem? hf, h⟩
theorem form_name {f : Int × L8 × L8} (hf : f ∈ formsL) : ∃ k : Nat, 1 ≤ k ∧ k ≤ 8 ∧ f.1 = (k : Int) ∧ f.2.1 = nameOf k := by
  have : ∀ f ∈ formsL, 1 ≤ f.1.toNat ∧ f.1.toNat ≤ 8 ∧ f.1 = (f.1.toNat : Int) ∧ f.2.1 = nameOf f.1.toNat := by decide +kernel
  obtain ⟨h1, h2, h3, h4⟩ := this f hf
  exact ⟨_, h1, h2, h3, h4⟩
/-- no such name -/
theorem lineW_no {w0 : L8} {r : List L8} (h : ∀ k, 1 ≤ k → k ≤ 8 → nameOf k ≠ w0) : lineW (w0 :: r) = none := by
  cases e : lineW (w0 :: r) with
  | none => rfl
  | some y =>
    obtain ⟨g, hg, hw, -⟩ := line_some e
    obtain ⟨k, h1, h8, -, hn⟩ := form_name hg
    unfold wordsOf at hw
    exact absurd ((List.cons.inj hw).1.trans hn).symm (h k h1 h8)
theorem name_inj {i j : Nat} (hi : 1 ≤ i ∧ i ≤ 8) (hj : 1 ≤ j ∧ j ≤ 8) (h : nameOf i = nameOf j) : i = j := by
  have : ∀ i, i < 9 → ∀ j, j < 9 → nameOf i = nameOf j → i = j := by decide +kernel
  exact this i (by omega) j (by omega) h
theorem nums_first : ∀ f ∈ formsL, ∀ i, i < f.2.2.length → i < 6 → f.2.2[i]? ≠ some 88 := by
  have : ∀ f ∈ formsL, ∀ i, i < 6 → f.2.2[i]? ≠ some 88 := by decide +kernel
  exact fun f hf i _ h => this f hf i h
/-- a word that is no number, where one stands -/
theorem readAll_bad : ∀ {cs : L8} {ws : List L8} {x : Op8} {i : Nat} {w : L8}, ws[i]? = some w → numS w = none → cs[i]? ≠ some 88 → readAll cs ws x = none := by
  intro cs
  induction cs with
  | nil =>
    intro ws x i w hw _ _
    cases ws with
    | nil => simp at hw
    | cons a r => rfl
  | cons c cs ih =>
    intro ws x i w hw hn h88
    cases ws with
    | nil => simp at hw
    | cons a r =>
      rw [readAll]
      cases i with
      | zero =>
        have ha : a = w := by simpa using hw
        have hc : c ≠ 88 := by simpa using h88
        unfold readS
        rw [if_neg hc, ha, hn]
        rfl
      | succ i =>
        cases e : readS x c a with
        | none => rfl
        | some z =>
          rw [Option.bind_some]
          exact ih (by simpa using hw) hn (by simpa using h88)
theorem lineW_bad {f : Int × L8 × L8} (hf : f ∈ formsL) {r : List L8} {i : Nat} {w : L8} (hl : r.length = f.2.2.length) (hi : i < 6) (hw : r[i]? = some w) (hn : numS w = none) : lineW (f.2.1 :: r) = none := by
  cases e : lineW (f.2.1 :: r) with
  | none => rfl
  | some y =>
    obtain ⟨g, hg, hm⟩ := List.exists_of_findSome?_eq_some e
    have hn2 : f.2.1 = g.2.1 := by
      have := (match_some hg hm).1
      unfold wordsOf at this
      exact (List.cons.inj this).1
    obtain rfl := forms_apart f hf g hg (.inr hn2)
    have hm : (if f.2.1 = f.2.1 then readAll f.2.2 r (zeroOp f.1) else none) = some y := hm
    rw [if_pos rfl, readAll_bad hw hn (nums_first f hf i (by have := (List.getElem?_eq_some_iff.1 hw).1; omega) hi)] at hm
    cases hm
theorem lineW_read {f : Int × L8 × L8} (hf : f ∈ formsL) {r : List L8} (y : Option Op8) (h : readAll f.2.2 r (zeroOp f.1) = y) : lineW (f.2.1 :: r) = y := by
  cases y with
  | some y =>
    refine line_of hf ?_
    show (if f.2.1 = f.2.1 then readAll f.2.2 r (zeroOp f.1) else none) = some y
    rw [if_pos rfl, h]
  | none =>
    cases e : lineW (f.2.1 :: r) with
    | none => rfl
    | some z =>
      obtain ⟨g, hg, hm⟩ := List.exists_of_findSome?_eq_some e
      have hn2 : f.2.1 = g.2.1 := by
        have := (match_some hg hm).1
        unfold wordsOf at this
        exact (List.cons.inj this).1
      obtain rfl := forms_apart f hf g hg (.inr hn2)
      have hm : (if f.2.1 = f.2.1 then readAll f.2.2 r (zeroOp f.1) else none) = some z := hm
      rw [if_pos rfl, h] at hm
      cases hm
/-- an operation's numbers, by its kind, when all that should be numbers are -/
def cntOf (k : Nat) : Nat := ([0, 8, 2, 3, 1, 3, 2, 1, 1] : List Nat).getD k 0
theorem cnt_form {f : Int × L8 × L8} (hf : f ∈ formsL) {k : Nat} (hk : f.1 = (k : Int)) : cntOf k = f.2.2.length + 1 := by
  have : ∀ f ∈ formsL, cntOf f.1.toNat = f.2.2.length + 1 := by decide +kernel
  have h := this f hf
  rw [hk] at h
  simpa using h
/-- what the reference's Line makes of words whose numbers are numbers -/
def madeO (k : Nat) (ws : List L8) : Option Op8 :=
  if k = 1 then (textS (ws.getD 7 [])).map fun b => ⟨1, numD ws 1, 0, 0, b, numD ws 2, numD ws 3, numD ws 4, numD ws 5, numD ws 6⟩
  else some ⟨k, numD ws 1, if k = 5 then numD ws 2 else 0, if k = 3 then numD ws 2 else 0, [], 0, 0, 0, 0, 0⟩
theorem numD_some {ws : List L8} {i n : Nat} {w : L8} (hw : ws[i]? = some w) (hn : numS w = some n) : numD ws i = n := by unfold numD; rw [hw]; dsimp only; rw [hn]
theorem made_line {k : Nat} (h1 : 1 ≤ k) (h8 : k ≤ 8) {r : List L8} (hl : r.length + 1 = cntOf k) (hn : ∀ i, 1 ≤ i → i < 7 → ∀ w, (nameOf k :: r)[i]? = some w → numS w ≠ none) : lineW (nameOf k :: r) = madeO k (nameOf k :: r) := by
  have key : ∀ i, i < 6 → ∀ w, r[i]? = some w → ∃ n, numS w = some n := fun i hi w hw => by
    have := hn (i + 1) (by omega) (by omega) w (by simpa using hw)
    exact Option.ne_none_iff_exists'.1 this
  match k, h1, h8 with
  | 1, _, _ =>
    have hl : r.length = 7 := by have : r.length + 1 = 8 := hl; omega
    match r, hl with
    | [a0, a1, a2, a3, a4, a5, a6], _ =>
    obtain ⟨n0, e0⟩ := key 0 (by omega) a0 rfl
    obtain ⟨n1, e1⟩ := key 1 (by omega) a1 rfl
    obtain ⟨n2, e2⟩ := key 2 (by omega) a2 rfl
    obtain ⟨n3, e3⟩ := key 3 (by omega) a3 rfl
    obtain ⟨n4, e4⟩ := key 4 (by omega) a4 rfl
    obtain ⟨n5, e5⟩ := key 5 (by omega) a5 rfl
    refine lineW_read (f := (1, [112, 117, 98, 108, 105, 115, 104], [82, 87, 72, 84, 67, 73, 88])) (by decide +kernel) _ ?_
    unfold madeO
    rw [if_pos rfl]
    simp only [numD, List.getElem?_cons_succ, List.getElem?_cons_zero, e0, e1, e2, e3, e4, e5, readAll, readS, zeroOp, setF]
    cases e : textS a6 with
    | none => simp [e]
    | some b => simp [e]
  | 2, _, _ | 6, _, _ =>
    have hl : r.length = 1 := by have : r.length + 1 = 2 := hl; omega
    match r, hl with
    | [a0], _ =>
    obtain ⟨n0, e0⟩ := key 0 (by omega) a0 rfl
    first
    | exact lineW_read (f := (2, [99, 104, 101, 99, 107, 111, 117, 116], [82])) (by decide +kernel) _ (by simp [madeO, numD, e0, readAll, readS, zeroOp, setF])
    | exact lineW_read (f := (6, [100, 101, 108, 101, 116, 101], [82])) (by decide +kernel) _ (by simp [madeO, numD, e0, readAll, readS, zeroOp, setF])
  | 3, _, _ | 5, _, _ =>
    have hl : r.length = 2 := by have : r.length + 1 = 3 := hl; omega
    match r, hl with
    | [a0, a1], _ =>
    obtain ⟨n0, e0⟩ := key 0 (by omega) a0 rfl
    obtain ⟨n1, e1⟩ := key 1 (by omega) a1 rfl
    first
    | exact lineW_read (f := (3, [112, 97, 103, 101], [82, 78])) (by decide +kernel) _ (by simp [madeO, numD, e0, e1, readAll, readS, zeroOp, setF])
    | exact lineW_read (f := (5, [100, 105, 102, 102], [82, 79])) (by decide +kernel) _ (by simp [madeO, numD, e0, e1, readAll, readS, zeroOp, setF])
  | 4, _, _ | 7, _, _ | 8, _, _ =>
    have hl : r.length = 0 := by have : r.length + 1 = 1 := hl; omega
    match r, hl with
    | [], _ =>
    first
    | exact lineW_read (f := (4, [108, 111, 103], [])) (by decide +kernel) _ (by simp [madeO, numD, readAll, zeroOp])
    | exact lineW_read (f := (7, [99, 111, 108, 108, 101, 99, 116], [])) (by decide +kernel) _ (by simp [madeO, numD, readAll, zeroOp])
    | exact lineW_read (f := (8, [115, 116, 97, 116], [])) (by decide +kernel) _ (by simp [madeO, numD, readAll, zeroOp])
  | k + 9, _, h => omega
end Go.Proofs.YtkmnmigpnbehaaaDoor
