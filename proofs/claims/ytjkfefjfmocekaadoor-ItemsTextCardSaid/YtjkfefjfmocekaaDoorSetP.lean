/- Plain laws of lines that are set: items, sums, pieces. -/
import Derived.Test.YtjkfefjfmocekaaDoorLib
namespace Go.Proofs.YtjkfefjfmocekaaDoor
open Go.RowKit

structure It where
  kind : Int
  w : Int
  y : Int
  z : Int
  cost : Int
  text : ByteArray

def encIt (x : It) : List Value := [.int .i64 x.kind, .int .i64 x.w, .int .i64 x.y, .int .i64 x.z, .int .i64 x.cost, .string x.text]
def encPc (x : Int × ByteArray) : List Value := [.int .i64 x.1, .string x.2]

/-- numbers that a machine's word holds -/
def w64 (n : Int) : Prop := -9223372036854775808 ≤ n ∧ n ≤ 9223372036854775807
def It.ok (x : It) : Prop := w64 x.kind ∧ w64 x.w ∧ w64 x.y ∧ w64 x.z ∧ w64 x.cost

def plain (n : Int) : Int := if 0 ≤ n ∧ n ≤ 10000 then n else 0
theorem plain_bd (n : Int) : 0 ≤ plain n ∧ plain n ≤ 10000 := by unfold plain; split <;> omega
theorem plain_eq {n : Int} (h1 : 0 ≤ n) (h2 : n ≤ 10000) : plain n = n := if_pos ⟨h1, h2⟩
theorem plain_out {n : Int} (h : n < 0 ∨ 10000 < n) : plain n = 0 := if_neg (by omega)

/-- the first Box from k on -/
def fst (l : List It) (k : Nat) : Nat := min (k + (l.drop k).findIdx (fun x => x.kind == 1)) l.length
theorem fst_end {l : List It} {k : Nat} (h : l.length ≤ k) : fst l k = l.length := by unfold fst; omega
theorem fst_hit {l : List It} {k : Nat} (h : k < l.length) (hk : l[k].kind = 1) : fst l k = k := by
  unfold fst
  rw [List.drop_eq_getElem_cons h, List.findIdx_cons]
  simp [hk]; omega
theorem fst_next {l : List It} {k : Nat} (h : k < l.length) (hk : ¬ l[k].kind = 1) : fst l k = fst l (k + 1) := by
  unfold fst
  rw [List.drop_eq_getElem_cons h, List.findIdx_cons]
  have : (l[k].kind == 1) = false := by simpa using hk
  simp [this]; omega
theorem fst_le (l : List It) (k : Nat) : fst l k ≤ l.length := by unfold fst; omega
theorem le_fst {l : List It} {k : Nat} (h : k ≤ l.length) : k ≤ fst l k := by unfold fst; omega

/-- where First begins: behind a break -/
def from1 (n : Int) (len : Nat) : Nat := (max (-1) (min n len) + 1).toNat
def firstL (l : List It) (n : Int) : Nat := fst l (from1 n l.length)
def upto (n : Int) (len : Nat) : Nat := (max 0 (min n len)).toNat

structure Sm where
  w : Int
  y : Int
  z : Int
  deriving DecidableEq
def Sm.step (s : Sm) (x : It) : Sm := ⟨if x.kind = 3 then s.w else s.w + plain x.w, s.y + plain x.y, s.z + plain x.z⟩
def smOf (l : List It) : Sm := l.foldl Sm.step ⟨0, 0, 0⟩
theorem smOf_snoc (l : List It) (x : It) : smOf (l ++ [x]) = (smOf l).step x := by simp [smOf]
def Sm.bd (s : Sm) (n : Nat) : Prop := (0 ≤ s.w ∧ s.w ≤ 10000 * n) ∧ (0 ≤ s.y ∧ s.y ≤ 10000 * n) ∧ (0 ≤ s.z ∧ s.z ≤ 10000 * n)
theorem Sm.bd_step {s : Sm} {n : Nat} (h : s.bd n) (x : It) : (s.step x).bd (n + 1) := by
  have h1 := plain_bd x.w
  have h2 := plain_bd x.y
  have h3 := plain_bd x.z
  obtain ⟨⟨a, b⟩, ⟨c, d⟩, ⟨e, f⟩⟩ := h
  refine ⟨?_, ?_, ?_⟩
  · show 0 ≤ (if x.kind = 3 then s.w else s.w + plain x.w) ∧ (if x.kind = 3 then s.w else s.w + plain x.w) ≤ _
    split <;> omega
  · show 0 ≤ s.y + plain x.y ∧ s.y + plain x.y ≤ _; omega
  · show 0 ≤ s.z + plain x.z ∧ s.z + plain x.z ≤ _; omega
theorem smOf_bd (l : List It) : (smOf l).bd l.length := by
  have key : ∀ (l : List It) (s : Sm) (n : Nat), s.bd n → (l.foldl Sm.step s).bd (n + l.length) := by
    intro l
    induction l with
    | nil => intro s n h; exact h
    | cons x l ih =>
      intro s n h
      have := ih _ _ (Sm.bd_step h x)
      rw [List.length_cons, show n + (l.length + 1) = n + 1 + l.length by omega]
      exact this
  have := key l ⟨0, 0, 0⟩ 0 ⟨by simp, by simp, by simp⟩
  rwa [Nat.zero_add] at this

/-- the items from f up to t -/
def mid (l : List It) (f t : Nat) : List It := (l.take t).drop f
theorem mid_self (l : List It) (f : Nat) : mid l f f = [] := by
  unfold mid; rw [List.drop_eq_nil_iff]; simp; omega
theorem mid_succ {l : List It} {f t : Nat} (h : f ≤ t) (ht : t < l.length) : mid l f (t + 1) = mid l f t ++ [l[t]] := by
  unfold mid
  rw [List.take_succ_eq_append_getElem ht, List.drop_append_of_le_length (by simp; omega)]
theorem mid_len (l : List It) (f t : Nat) : (mid l f t).length ≤ l.length := by unfold mid; simp; omega
theorem smMid_bd (l : List It) (f t : Nat) : (smOf (mid l f t)).bd l.length := by
  obtain ⟨⟨a, b⟩, ⟨c, d⟩, ⟨e, g⟩⟩ := smOf_bd (mid l f t)
  have := mid_len l f t
  refine ⟨⟨a, by omega⟩, ⟨c, by omega⟩, ⟨e, by omega⟩⟩

def isPen (l : List It) (t : Nat) : Bool := match l[t]? with | some x => x.kind == 3 | none => false
def penW (l : List It) (t : Nat) : Int := match l[t]? with | some x => if x.kind = 3 then plain x.w else 0 | none => 0
theorem penW_bd (l : List It) (t : Nat) : 0 ≤ penW l t ∧ penW l t ≤ 10000 := by
  unfold penW; split
  · split
    · exact plain_bd _
    · omega
  · omega
theorem penW_yes {l : List It} {t : Nat} (h : t < l.length) (hk : l[t].kind = 3) : penW l t = plain l[t].w := by
  unfold penW; rw [List.getElem?_eq_getElem h]; exact if_pos hk
theorem penW_no {l : List It} {t : Nat} (h : t < l.length) (hk : ¬ l[t].kind = 3) : penW l t = 0 := by
  unfold penW; rw [List.getElem?_eq_getElem h]; exact if_neg hk
theorem penW_end {l : List It} {t : Nat} (h : l.length ≤ t) : penW l t = 0 := by
  unfold penW; rw [List.getElem?_eq_none h]
def lineSm (l : List It) (f t : Nat) : Sm := if f < t then ⟨(smOf (mid l f t)).w + penW l t, (smOf (mid l f t)).y, (smOf (mid l f t)).z⟩ else ⟨0, 0, 0⟩
theorem lineSm_bd (l : List It) (f t : Nat) : (lineSm l f t).bd (l.length + 1) := by
  obtain ⟨⟨a, b⟩, ⟨c, d⟩, ⟨e, g⟩⟩ := smMid_bd l f t
  have := penW_bd l t
  unfold lineSm; split
  · exact ⟨⟨by simp only []; omega, by simp only []; omega⟩, ⟨by simp only []; omega, by simp only []; omega⟩, ⟨by simp only []; omega, by simp only []; omega⟩⟩
  · exact ⟨⟨by simp, by simp only []; omega⟩, ⟨by simp, by simp only []; omega⟩, ⟨by simp, by simp only []; omega⟩⟩

def spread (d a all : Int) : Int := if all = 0 then 0 else (d * a).tdiv all
def moved (d : Int) (s a : Sm) : Int := if 0 ≤ d then spread d a.y s.y else -(spread (min (-d) s.z) a.z s.z)

/-- pieces of items, with what stands ahead -/
def pcs (d : Int) (s : Sm) : Sm → List It → List (Int × ByteArray)
  | _, [] => []
  | a, x :: r => if x.kind = 1 ∧ x.text.size ≠ 0 then (a.w + moved d s a, x.text) :: pcs d s (a.step x) r else pcs d s (a.step x) r
theorem pcs_append (d : Int) (s : Sm) : ∀ (l m : List It) (a : Sm), pcs d s a (l ++ m) = pcs d s a l ++ pcs d s (l.foldl Sm.step a) m := by
  intro l
  induction l with
  | nil => intro m a; rfl
  | cons x l ih =>
    intro m a
    simp only [List.cons_append, pcs, List.foldl_cons]
    split
    · simp [ih]
    · exact ih _ _
def pcsOf (d : Int) (s : Sm) (l : List It) : List (Int × ByteArray) := pcs d s ⟨0, 0, 0⟩ l
theorem pcsOf_hit (d : Int) (s : Sm) (l : List It) (x : It) (h : x.kind = 1) (ht : x.text.size ≠ 0) : pcsOf d s (l ++ [x]) = pcsOf d s l ++ [((smOf l).w + moved d s (smOf l), x.text)] := by
  unfold pcsOf; rw [pcs_append]; congr 1; simp only [pcs, if_pos (And.intro h ht)]; rfl
theorem pcsOf_miss (d : Int) (s : Sm) (l : List It) (x : It) (h : ¬ (x.kind = 1 ∧ x.text.size ≠ 0)) : pcsOf d s (l ++ [x]) = pcsOf d s l := by
  unfold pcsOf; rw [pcs_append]; simp only [pcs, if_neg h, List.append_nil]
def dash : ByteArray := ⟨#[45]⟩
def allPcs (d : Int) (s : Sm) (l : List It) (f t : Nat) : List (Int × ByteArray) :=
  pcsOf d s (mid l f t) ++ (if isPen l t then [((smOf (mid l f t)).w + moved d s (smOf (mid l f t)), dash)] else [])
theorem isPen_yes {l : List It} {t : Nat} (h : t < l.length) (hk : l[t].kind = 3) : isPen l t = true := by
  unfold isPen; rw [List.getElem?_eq_getElem h]; simpa using hk
theorem isPen_no {l : List It} {t : Nat} (h : t < l.length) (hk : ¬ l[t].kind = 3) : isPen l t = false := by
  unfold isPen; rw [List.getElem?_eq_getElem h]; simpa using hk
theorem isPen_end {l : List It} {t : Nat} (h : l.length ≤ t) : isPen l t = false := by
  unfold isPen; rw [List.getElem?_eq_none h]

def needOf (width : Int) (last : Bool) (s : Sm) : Int := if last then min (plain width - s.w) 0 else plain width - s.w
def setL (l : List It) (from_ to width : Int) (last : Bool) : List (Int × ByteArray) :=
  if firstL l from_ < upto to l.length then
    allPcs (needOf width last (lineSm l (firstL l from_) (upto to l.length))) (lineSm l (firstL l from_) (upto to l.length)) l (firstL l from_) (upto to l.length)
  else []
end Go.Proofs.YtjkfefjfmocekaaDoor
