/- Plain laws of breaks: what a best way is: its lines, one behind the other. Plain laws of lines that are set: where a spelled part may be broken. -/
import Derived.Test.YtempicociampoaaDoorJ12
import Derived.Test.YtempicociampoaaDoorSetE
namespace Go.Proofs.YtempicociampoaaDoor
open Go.RowKit

def lastI (n : Int) : List Int → Int
  | [] => n
  | b :: r => lastI b r
theorem lastI_snoc (t : Int) : ∀ (br : List Int) (n : Int), lastI n (br ++ [t]) = t
  | [], _ => rfl
  | b :: r, _ => lastI_snoc t r b
/-- lines that may be laid, one behind the other, from a place on -/
def Leg (l : List It) (wd tol : Int) (all : Bool) : Int → List Int → Prop
  | _, [] => True
  | n, b :: r => (0 ≤ b ∧ firstL l n < b.toNat ∧ (all = true ∨ (liS l wd tol n b.toNat).may = true)) ∧ Leg l wd tol all b r
theorem Leg.snoc {l : List It} {wd tol : Int} {all : Bool} {t : Int} : ∀ {br : List Int} {n : Int}, Leg l wd tol all n br → 0 ≤ t → firstL l (lastI n br) < t.toNat → (all = true ∨ (liS l wd tol (lastI n br) t.toNat).may = true) → Leg l wd tol all n (br ++ [t])
  | [], _, _, h0, h1, h2 => ⟨⟨h0, h1, h2⟩, trivial⟩
  | _ :: _, _, h, h0, h1, h2 => ⟨h.1, Leg.snoc h.2 h0 h1 h2⟩
/-- what a way's lines cost, how many are overfull -/
def sumD (l : List It) (wd tol : Int) : Int → List Int → Int
  | _, [] => 0
  | n, b :: r => (liS l wd tol n b.toNat).dem + sumD l wd tol b r
def sumO (l : List It) (wd tol : Int) : Int → List Int → Int
  | _, [] => 0
  | n, b :: r => (if (liS l wd tol n b.toNat).over = true then 1 else 0) + sumO l wd tol b r
theorem sumD_snoc (l : List It) (wd tol t : Int) : ∀ (br : List Int) (n : Int), sumD l wd tol n (br ++ [t]) = sumD l wd tol n br + (liS l wd tol (lastI n br) t.toNat).dem
  | [], n => by simp [sumD, lastI]
  | b :: r, n => by rw [List.cons_append, sumD, sumD, sumD_snoc l wd tol t r b, lastI]; omega
theorem sumO_snoc (l : List It) (wd tol t : Int) : ∀ (br : List Int) (n : Int), sumO l wd tol n (br ++ [t]) = sumO l wd tol n br + if (liS l wd tol (lastI n br) t.toNat).over = true then 1 else 0
  | [], n => by show _ + 0 = 0 + _; rw [Int.add_zero, Int.zero_add]; rfl
  | b :: r, n => by rw [List.cons_append, sumO, sumO, sumO_snoc l wd tol t r b, lastI]; omega
/-- a way of legal lines from n to t, of the places pl -/
structure Isw (l : List It) (wd tol : Int) (all : Bool) (pl : List Int) (n t : Int) (v : Wy) : Prop where
  leg : Leg l wd tol all n v.br
  last : lastI n v.br = t
  mem : ∀ b ∈ v.br, b ∈ pl
  tot : v.tot = sumD l wd tol n v.br
  ov : v.ov = sumO l wd tol n v.br
theorem Isw.more {l : List It} {wd tol : Int} {all : Bool} {pl : List Int} {n u : Int} {t : Nat} {v : Wy} (h : Isw l wd tol all pl n u v) (ht : (t : Int) ∈ pl) (h1 : firstL l u < t) (h2 : (all || (liS l wd tol u t).may) = true) : Isw l wd tol all pl n t (moreW v (liS l wd tol u t) t) := by
  obtain ⟨a, b, c, d, e⟩ := h
  have e1 : ((t : Int)).toNat = t := by omega
  refine ⟨Leg.snoc a (by omega) (by rw [b, e1]; exact h1) (by rw [b, e1]; simpa using h2), lastI_snoc _ _ _, fun x hx => ?_, ?_, ?_⟩
  · rcases List.mem_append.1 hx with hx | hx
    · exact c x hx
    · obtain rfl := List.mem_singleton.1 hx; exact ht
  · unfold moreW; rw [sumD_snoc, b, e1, ← d]
  · unfold moreW; rw [sumO_snoc, b, e1, ← e]
theorem fs_get {fs : List (Option Wy)} {i : Nat} {u : Wy} (hu : fs.getD i none = some u) : fs[i]? = some (some u) := by
  rw [List.getD_eq_getElem?_getD] at hu
  cases hg : fs[i]? with
  | none => rw [hg] at hu; cases hu
  | some y => rw [hg] at hu; exact congrArg some hu
theorem fold_is {l : List It} {wd tol : Int} {all : Bool} {pl : List Int} {fs : List (Option Wy)} {t : Nat} {n : Int} (ht : (t : Int) ∈ pl) (hf : ∀ (i : Nat) (v : Wy), fs[i]? = some (some v) → Isw l wd tol all pl n (pl.getD i 0) v) :
    ∀ (i : Nat) (v : Wy), foldW l wd tol all pl fs t i = some v → Isw l wd tol all pl n t v ∧ v.br ≠ []
  | 0, v, h => by cases h
  | i + 1, v, h => by
    have ih := fold_is (l := l) (wd := wd) (tol := tol) (all := all) (pl := pl) ht hf i
    unfold foldW tryW at h
    split at h
    · exact ih v h
    · rename_i u hu
      have hu2 := hf i u (fs_get hu)
      split at h
      · rename_i hb
        split at h
        · rename_i hm
          have hn : Isw l wd tol all pl n t (moreW u (liS l wd tol (pl.getD i 0) t) t) ∧ (moreW u (liS l wd tol (pl.getD i 0) t) t).br ≠ [] := ⟨hu2.more ht hb hm, by unfold moreW; simp⟩
          unfold offerW at h
          split at h
          · cases h; exact hn
          · rename_i c hc
            split at h
            · cases h; exact hn
            · cases h; exact ih _ hc
        · exact ih v h
      · exact ih v h
theorem found_is {l : List It} {wd tol : Int} {all : Bool} {pl : List Int} (hpl : ∀ i, 0 < i → i < pl.length → 0 ≤ pl.getD i 0) : ∀ (k : Nat), k < pl.length → ∀ (i : Nat) (v : Wy), (foundW l wd tol all pl k)[i]? = some (some v) → Isw l wd tol all pl (pl.getD 0 0) (pl.getD i 0) v ∧ (0 < i → v.br ≠ [])
  | 0, _, i, v, h => by
    match i, h with
    | 0, h => cases h; exact ⟨⟨trivial, rfl, fun b hb => (by cases hb), rfl, rfl⟩, fun h => by omega⟩
    | i + 1, h => simp [foundW] at h
  | k + 1, hk, i, v, h => by
    have ih := found_is (l := l) (wd := wd) (tol := tol) (all := all) hpl k (by omega)
    rw [foundW] at h
    have hl := found_len l wd tol all pl k
    by_cases hi : i < (foundW l wd tol all pl k).length
    · rw [List.getElem?_append_left hi] at h
      exact ih i v h
    · rw [List.getElem?_append_right (by omega)] at h
      cases hj : i - (foundW l wd tol all pl k).length with
      | zero =>
        rw [hj] at h
        obtain rfl : i = k + 1 := by omega
        have h0 := hpl (k + 1) (by omega) hk
        have ht : (((pl.getD (k + 1) 0).toNat : Nat) : Int) = pl.getD (k + 1) 0 := by omega
        have hm : (((pl.getD (k + 1) 0).toNat : Nat) : Int) ∈ pl := by
          rw [ht, List.getD_eq_getElem?_getD, List.getElem?_eq_getElem hk]; exact List.getElem_mem _
        have h9 := fold_is hm (fun i v hv => (ih i v hv).1) _ v (Option.some.inj h)
        rw [ht] at h9
        exact ⟨h9.1, fun _ => h9.2⟩
      | succ j => rw [hj] at h; simp at h
/-- where a line of all is laid, there is a way, if all are taken -/
theorem fold_some {l : List It} {wd tol : Int} {pl : List Int} {fs : List (Option Wy)} {t : Nat} {u : Wy} (h0 : fs[0]? = some (some u)) (hb : firstL l (pl.getD 0 0) < t) : ∀ i, ∃ v, foldW l wd tol true pl fs t (i + 1) = some v
  | 0 => by
    rw [foldW, foldW, List.getD_eq_getElem?_getD (l := fs), h0]
    show ∃ v, tryW l wd tol true (pl.getD 0 0) t (some u) none = some v
    unfold tryW
    dsimp only
    rw [if_pos hb, if_pos (Bool.true_or _)]
    exact ⟨_, rfl⟩
  | i + 1 => by
    obtain ⟨v, ih⟩ := fold_some h0 hb (l := l) (wd := wd) (tol := tol) (pl := pl) (fs := fs) (t := t) i
    rw [foldW, ih]
    unfold tryW
    split
    · exact ⟨_, rfl⟩
    · split
      · split
        · unfold offerW
          dsimp only
          split <;> exact ⟨_, rfl⟩
        · exact ⟨_, rfl⟩
      · exact ⟨_, rfl⟩
theorem found_zero (l : List It) (wd tol : Int) (all : Bool) (pl : List Int) : ∀ k, (foundW l wd tol all pl k)[0]? = some (some ⟨[], 0, 0⟩)
  | 0 => rfl
  | k + 1 => by rw [foundW, List.getElem?_append_left (by rw [found_len]; omega)]; exact found_zero l wd tol all pl k
theorem best_last (l : List It) (wd tol : Int) (all : Bool) (pl : List Int) {k : Nat} (hk : pl.length = k + 2) : bestW l wd tol all pl = foldW l wd tol all pl (foundW l wd tol all pl k) (pl.getD (k + 1) 0).toNat (k + 1) := by
  unfold bestW
  rw [hk, show k + 2 - 1 = k + 1 by omega, foundW, List.getLast?_append]
  rfl
end Go.Proofs.YtempicociampoaaDoor
namespace Go.Proofs.YtempicociampoaaDoor
open Go.RowKit

def brkAt (l : List It) (i : Nat) : Bool :=
  match l[i]? with
  | none => false
  | some x => x.kind == 3 || (x.kind == 2 && decide (0 < plain x.y) && decide (0 < i) && (match l[i - 1]? with | some y => y.kind == 1 | none => false))
def brks (l : List It) (k : Nat) : List Int := ((List.range k).filter (brkAt l)).map fun (i : Nat) => (i : Int)
def brk (l : List It) : List Int := brks l l.length ++ [(l.length : Int)]
theorem brks_hit {l : List It} {k : Nat} (h : brkAt l k = true) : brks l (k + 1) = brks l k ++ [(k : Int)] := by
  unfold brks; rw [List.range_succ, List.filter_append, List.map_append]; simp [h]
theorem brks_miss {l : List It} {k : Nat} (h : brkAt l k = false) : brks l (k + 1) = brks l k := by
  unfold brks; rw [List.range_succ, List.filter_append, List.map_append]; simp [h]
theorem brks_len (l : List It) (k : Nat) : (brks l k).length ≤ k := by
  unfold brks; rw [List.length_map]
  exact Nat.le_trans (List.length_filter_le _ _) (by simp)
theorem brk_len (l : List It) : 1 ≤ (brk l).length ∧ (brk l).length ≤ l.length + 1 := by
  have := brks_len l l.length
  unfold brk; simp; omega
theorem brk_mem {l : List It} {b : Int} (h : b ∈ brk l) : ∃ i : Nat, b = i ∧ i ≤ l.length ∧ (i < l.length → ∃ hi : i < l.length, l[i].kind ≠ 1) := by
  unfold brk at h
  rcases List.mem_append.1 h with h | h
  · obtain ⟨i, hi, rfl⟩ := List.mem_map.1 h
    obtain ⟨h1, h2⟩ := List.mem_filter.1 hi
    have h1 : i < l.length := by simpa using h1
    refine ⟨i, rfl, by omega, fun _ => ⟨h1, fun hk => ?_⟩⟩
    unfold brkAt at h2
    rw [List.getElem?_eq_getElem h1] at h2
    simp [hk] at h2
  · exact ⟨l.length, by simpa using h, by omega, fun h => by omega⟩
variable {tw : ByteArray → Int}
/-- a part's items as they are spelled: what is no Box stands between Boxes, the one ahead of it with text -/
structure Lp (tw : ByteArray → Int) (l : List It) : Prop where
  good : ∀ x ∈ l, gd tw x
  last : ∃ x, l.getLast? = some x ∧ tb tw x
  near : ∀ i (h : i < l.length), l[i].kind ≠ 1 → 0 < i ∧ (∃ x, l[i - 1]? = some x ∧ tb tw x) ∧ ∃ x, l[i + 1]? = some x ∧ x.kind = 1

theorem Lp.tail {l : List It} (hl : Lp tw l) {t : Nat} (h1 : 0 < t) (h2 : t ≤ l.length) (h3 : t < l.length → ∃ hi : t < l.length, l[t].kind ≠ 1) : ∃ x, l[t - 1]? = some x ∧ tb tw x := by
  by_cases h : t < l.length
  · obtain ⟨hi, hk⟩ := h3 h
    exact (hl.near t hi hk).2.1
  · obtain rfl : t = l.length := by omega
    obtain ⟨x, hx, hb⟩ := hl.last
    exact ⟨x, by rw [← List.getLast?_eq_getElem?]; exact hx, hb⟩

theorem Lp.line {l : List It} (hl : Lp tw l) {from_ : Int} {t : Nat} (ht : (t : Int) ∈ brk l) (hf : from_ = -1 ∨ (from_ ∈ brk l ∧ from_ < t)) :
    upto t l.length = t ∧ firstL l from_ < t ∧ (∃ m' x, mid l (firstL l from_) t = m' ++ [x] ∧ tb tw x) ∧ (∀ y ∈ mid l (firstL l from_) t, gd tw y) ∧ (∀ y, l[t]? = some y → y.kind = 3 → y.w = 4) := by
  obtain ⟨x0, hx0, hb0⟩ := hl.last
  have hne : l ≠ [] := by rintro rfl; simp at hx0
  have hpos : 0 < l.length := List.length_pos_iff.2 hne
  obtain ⟨t', ht1, ht2, ht3⟩ := brk_mem ht
  obtain rfl : t' = t := by omega
  have hup : upto (t' : Int) l.length = t' := by unfold upto; omega
  have h0 : l[0].kind = 1 := by
    by_cases h : l[0].kind = 1
    · exact h
    · exact absurd (hl.near 0 hpos h).1 (by omega)
  have hfirst : ∃ f, firstL l from_ = f ∧ f < t' := by
    rcases hf with rfl | ⟨hf, hlt⟩
    · have e : from1 (-1) l.length = 0 := by unfold from1; omega
      refine ⟨0, by unfold firstL; rw [e]; exact fst_hit hpos h0, ?_⟩
      by_cases h : t' = 0
      · subst h
        obtain ⟨hi, hk⟩ := ht3 hpos
        exact absurd h0 hk
      · omega
    · obtain ⟨b, rfl, hb2, hb3⟩ := brk_mem hf
      have hlt : b < t' := by omega
      have hbl : b < l.length := by omega
      obtain ⟨_, hk⟩ := hb3 hbl
      obtain ⟨x, hx, hx1⟩ := (hl.near b hbl hk).2.2
      have hb1 : b + 1 < l.length := (List.getElem?_eq_some_iff.1 hx).1
      have hxe : l[b + 1] = x := (List.getElem?_eq_some_iff.1 hx).2
      have e : from1 (b : Int) l.length = b + 1 := by unfold from1; omega
      refine ⟨b + 1, by unfold firstL; rw [e]; exact fst_hit hb1 (by rw [hxe]; exact hx1), ?_⟩
      by_cases h : t' = b + 1
      · subst h
        obtain ⟨hi, hk⟩ := ht3 hb1
        rw [hxe] at hk
        exact absurd hx1 hk
      · omega
  obtain ⟨f, ef, hft⟩ := hfirst
  rw [ef]
  have hg : ∀ y ∈ mid l f t', gd tw y := fun y hy => hl.good y (List.mem_of_mem_take (List.mem_of_mem_drop hy))
  refine ⟨hup, hft, ?_, hg, fun y hy hk => ?_⟩
  · obtain ⟨x, hx, hb⟩ := hl.tail (by omega) ht2 ht3
    have hxl : t' - 1 < l.length := (List.getElem?_eq_some_iff.1 hx).1
    have hxe : l[t' - 1] = x := (List.getElem?_eq_some_iff.1 hx).2
    refine ⟨mid l f (t' - 1), x, ?_, hb⟩
    have := mid_succ (l := l) (f := f) (t := t' - 1) (by omega) hxl
    rw [show t' - 1 + 1 = t' by omega, hxe] at this
    exact this
  · rcases hl.good y (List.mem_of_getElem? hy) with ⟨h, -⟩ | ⟨h, -⟩ | ⟨h, -⟩ | ⟨-, h, -⟩
    · omega
    · omega
    · omega
    · exact h

def emp : ByteArray := ⟨#[]⟩
theorem Lp.snoc {l : List It} {x y : It} (hl : Lp tw l) (hx : gd tw x) (hxk : x.kind ≠ 1) (hy : tb tw y) : Lp tw (l ++ [x, y]) := by
  obtain ⟨z, hz, hzb⟩ := hl.last
  refine ⟨fun a ha => ?_, ⟨y, by simp, hy⟩, fun i hi hk => ?_⟩
  · rcases List.mem_append.1 ha with h | h
    · exact hl.good a h
    · rcases List.mem_cons.1 h with rfl | h
      · exact hx
      · obtain rfl : a = y := by simpa using h
        exact .inl hy
  · simp only [List.length_append, List.length_cons, List.length_nil] at hi
    by_cases h1 : i < l.length
    · have e : (l ++ [x, y])[i]'(by simp; omega) = l[i] := List.getElem_append_left h1
      rw [e] at hk
      obtain ⟨n1, ⟨a, ha, hab⟩, b, hb, hbk⟩ := hl.near i h1 hk
      refine ⟨n1, ⟨a, ?_, hab⟩, b, ?_, hbk⟩
      · rw [List.getElem?_append_left (by omega)]; exact ha
      · have := (List.getElem?_eq_some_iff.1 hb).1
        rw [List.getElem?_append_left this]; exact hb
    · by_cases h2 : i = l.length
      · subst h2
        have hpos : 0 < l.length := List.length_pos_iff.2 (by rintro rfl; simp at hz)
        refine ⟨hpos, ⟨z, ?_, hzb⟩, y, ?_, hy.1⟩
        · rw [List.getElem?_append_left (by omega), ← List.getLast?_eq_getElem?]; exact hz
        · rw [List.getElem?_append_right (by omega)]; simp
      · obtain rfl : i = l.length + 1 := by omega
        have e : (l ++ [x, y])[l.length + 1]'(by simp) = y := by
          rw [List.getElem_append_right (by omega)]; simp
        rw [e] at hk
        exact absurd hy.1 hk

end Go.Proofs.YtempicociampoaaDoor
