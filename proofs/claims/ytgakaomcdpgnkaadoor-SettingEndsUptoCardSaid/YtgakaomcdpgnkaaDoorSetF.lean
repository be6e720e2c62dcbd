/- Plain laws of lines that are set: where a spelled part may be broken. -/
import Derived.Test.YtgakaomcdpgnkaaDoorSetE
namespace Go.Proofs.YtgakaomcdpgnkaaDoor
open Go.RowKit

def brkAt (l : List It) (i : Nat) : Bool :=
  match l[i]? with
  | none => false
  | some x => x.kind == 3 || (x.kind == 2 && decide (0 < plain x.y) && decide (0 < i) && (match l[i - 1]? with | some y => y.kind == 1 | none => false))
def brks (l : List It) (k : Nat) : List Int := ((List.range k).filter (brkAt l)).map fun (i : Nat) => (i : Int)
def brk (l : List It) : List Int := brks l l.length ++ [(l.length : Int)]
theorem brks_hit {l : List It} {k : Nat} (h : brkAt l k = true) : brks l (k + 1) = brks l k ++ [(k : Int)] := by
  unfold brks; rw [List.range_succ, List.filter_append, List.map_append]; simp [h]
theorem brks_miss {l : List It} {k : Nat} (h : brkAt l k = false) : brks l (k + 1) = brks l k := by
  unfold brks; rw [List.range_succ, List.filter_append, List.map_append]; simp [h]
theorem brks_len (l : List It) (k : Nat) : (brks l k).length ≤ k := by
  unfold brks; rw [List.length_map]
  exact Nat.le_trans (List.length_filter_le _ _) (by simp)
theorem brk_len (l : List It) : 1 ≤ (brk l).length ∧ (brk l).length ≤ l.length + 1 := by
  have := brks_len l l.length
  unfold brk; simp; omega
theorem brk_mem {l : List It} {b : Int} (h : b ∈ brk l) : ∃ i : Nat, b = i ∧ i ≤ l.length ∧ (i < l.length → ∃ hi : i < l.length, l[i].kind ≠ 1) := by
  unfold brk at h
  rcases List.mem_append.1 h with h | h
  · obtain ⟨i, hi, rfl⟩ := List.mem_map.1 h
    obtain ⟨h1, h2⟩ := List.mem_filter.1 hi
    have h1 : i < l.length := by simpa using h1
    refine ⟨i, rfl, by omega, fun _ => ⟨h1, fun hk => ?_⟩⟩
    unfold brkAt at h2
    rw [List.getElem?_eq_getElem h1] at h2
    simp [hk] at h2
  · exact ⟨l.length, by simpa using h, by omega, fun h => by omega⟩
theorem brk_rise (l : List It) : (brk l).Pairwise (· < ·) := by
  unfold brk brks
  refine List.pairwise_append.2 ⟨?_, by simp, fun a ha b hb => ?_⟩
  · rw [List.pairwise_map]
    have : (List.range l.length).Pairwise (fun a b : Nat => (a : Int) < (b : Int)) := by
      have h := List.pairwise_lt_range (n := l.length)
      exact h.imp fun hab => by omega
    exact this.filter _
  · obtain ⟨i, hi, rfl⟩ := List.mem_map.1 ha
    have h1 := (List.mem_filter.1 hi).1
    have h1 : i < l.length := by simpa using h1
    obtain rfl : b = _ := by simpa using hb
    omega

variable {tw : ByteArray → Int}
/-- a part's items as they are spelled: what is no Box stands between Boxes, the one ahead of it with text -/
structure Lp (tw : ByteArray → Int) (l : List It) : Prop where
  good : ∀ x ∈ l, gd tw x
  last : ∃ x, l.getLast? = some x ∧ tb tw x
  near : ∀ i (h : i < l.length), l[i].kind ≠ 1 → 0 < i ∧ (∃ x, l[i - 1]? = some x ∧ tb tw x) ∧ ∃ x, l[i + 1]? = some x ∧ x.kind = 1

theorem Lp.tail {l : List It} (hl : Lp tw l) {t : Nat} (h1 : 0 < t) (h2 : t ≤ l.length) (h3 : t < l.length → ∃ hi : t < l.length, l[t].kind ≠ 1) : ∃ x, l[t - 1]? = some x ∧ tb tw x := by
  by_cases h : t < l.length
  · obtain ⟨hi, hk⟩ := h3 h
    exact (hl.near t hi hk).2.1
  · obtain rfl : t = l.length := by omega
    obtain ⟨x, hx, hb⟩ := hl.last
    exact ⟨x, by rw [← List.getLast?_eq_getElem?]; exact hx, hb⟩

theorem Lp.line {l : List It} (hl : Lp tw l) {from_ : Int} {t : Nat} (ht : (t : Int) ∈ brk l) (hf : from_ = -1 ∨ (from_ ∈ brk l ∧ from_ < t)) :
    upto t l.length = t ∧ firstL l from_ < t ∧ (∃ m' x, mid l (firstL l from_) t = m' ++ [x] ∧ tb tw x) ∧ (∀ y ∈ mid l (firstL l from_) t, gd tw y) ∧ (∀ y, l[t]? = some y → y.kind = 3 → y.w = 4) := by
  obtain ⟨x0, hx0, hb0⟩ := hl.last
  have hne : l ≠ [] := by rintro rfl; simp at hx0
  have hpos : 0 < l.length := List.length_pos_iff.2 hne
  obtain ⟨t', ht1, ht2, ht3⟩ := brk_mem ht
  obtain rfl : t' = t := by omega
  have hup : upto (t' : Int) l.length = t' := by unfold upto; omega
  have h0 : l[0].kind = 1 := by
    by_cases h : l[0].kind = 1
    · exact h
    · exact absurd (hl.near 0 hpos h).1 (by omega)
  have hfirst : ∃ f, firstL l from_ = f ∧ f < t' := by
    rcases hf with rfl | ⟨hf, hlt⟩
    · have e : from1 (-1) l.length = 0 := by unfold from1; omega
      refine ⟨0, by unfold firstL; rw [e]; exact fst_hit hpos h0, ?_⟩
      by_cases h : t' = 0
      · subst h
        obtain ⟨hi, hk⟩ := ht3 hpos
        exact absurd h0 hk
      · omega
    · obtain ⟨b, rfl, hb2, hb3⟩ := brk_mem hf
      have hlt : b < t' := by omega
      have hbl : b < l.length := by omega
      obtain ⟨_, hk⟩ := hb3 hbl
      obtain ⟨x, hx, hx1⟩ := (hl.near b hbl hk).2.2
      have hb1 : b + 1 < l.length := (List.getElem?_eq_some_iff.1 hx).1
      have hxe : l[b + 1] = x := (List.getElem?_eq_some_iff.1 hx).2
      have e : from1 (b : Int) l.length = b + 1 := by unfold from1; omega
      refine ⟨b + 1, by unfold firstL; rw [e]; exact fst_hit hb1 (by rw [hxe]; exact hx1), ?_⟩
      by_cases h : t' = b + 1
      · subst h
        obtain ⟨hi, hk⟩ := ht3 hb1
        rw [hxe] at hk
        exact absurd hx1 hk
      · omega
  obtain ⟨f, ef, hft⟩ := hfirst
  rw [ef]
  have hg : ∀ y ∈ mid l f t', gd tw y := fun y hy => hl.good y (List.mem_of_mem_take (List.mem_of_mem_drop hy))
  refine ⟨hup, hft, ?_, hg, fun y hy hk => ?_⟩
  · obtain ⟨x, hx, hb⟩ := hl.tail (by omega) ht2 ht3
    have hxl : t' - 1 < l.length := (List.getElem?_eq_some_iff.1 hx).1
    have hxe : l[t' - 1] = x := (List.getElem?_eq_some_iff.1 hx).2
    refine ⟨mid l f (t' - 1), x, ?_, hb⟩
    have := mid_succ (l := l) (f := f) (t := t' - 1) (by omega) hxl
    rw [show t' - 1 + 1 = t' by omega, hxe] at this
    exact this
  · rcases hl.good y (List.mem_of_getElem? hy) with ⟨h, -⟩ | ⟨h, -⟩ | ⟨h, -⟩ | ⟨-, h, -⟩
    · omega
    · omega
    · omega
    · exact h

/-- one word more -/
def boxI (tw : ByteArray → Int) (s : ByteArray) : It := ⟨1, tw s, 0, 0, 0, s⟩
def emp : ByteArray := ⟨#[]⟩
def glueI : It := ⟨2, 4, 2, 1, 0, emp⟩
def penI : It := ⟨3, 4, 0, 0, 0, emp⟩
def xI : It := ⟨1, 6, 0, 0, 0, ⟨#[120]⟩⟩
def indI (n : Int) : It := ⟨1, n, 0, 0, 0, emp⟩
/-- the items of the first k words of n -/
def spell (tw : ByteArray → Int) (ind : List It) (ws : List ByteArray) : Nat → List It
  | 0 => ind
  | k + 1 => spell tw ind ws k ++ (if 0 < k then [glueI] else []) ++ [boxI tw (ws.getD k emp)] ++ (if k % 3 = 2 ∧ k + 1 < ws.length then [penI, xI] else [])

theorem Lp.snoc {l : List It} {x y : It} (hl : Lp tw l) (hx : gd tw x) (hxk : x.kind ≠ 1) (hy : tb tw y) : Lp tw (l ++ [x, y]) := by
  obtain ⟨z, hz, hzb⟩ := hl.last
  refine ⟨fun a ha => ?_, ⟨y, by simp, hy⟩, fun i hi hk => ?_⟩
  · rcases List.mem_append.1 ha with h | h
    · exact hl.good a h
    · rcases List.mem_cons.1 h with rfl | h
      · exact hx
      · obtain rfl : a = y := by simpa using h
        exact .inl hy
  · simp only [List.length_append, List.length_cons, List.length_nil] at hi
    by_cases h1 : i < l.length
    · have e : (l ++ [x, y])[i]'(by simp; omega) = l[i] := List.getElem_append_left h1
      rw [e] at hk
      obtain ⟨n1, ⟨a, ha, hab⟩, b, hb, hbk⟩ := hl.near i h1 hk
      refine ⟨n1, ⟨a, ?_, hab⟩, b, ?_, hbk⟩
      · rw [List.getElem?_append_left (by omega)]; exact ha
      · have := (List.getElem?_eq_some_iff.1 hb).1
        rw [List.getElem?_append_left this]; exact hb
    · by_cases h2 : i = l.length
      · subst h2
        have hpos : 0 < l.length := List.length_pos_iff.2 (by rintro rfl; simp at hz)
        refine ⟨hpos, ⟨z, ?_, hzb⟩, y, ?_, hy.1⟩
        · rw [List.getElem?_append_left (by omega), ← List.getLast?_eq_getElem?]; exact hz
        · rw [List.getElem?_append_right (by omega)]; simp
      · obtain rfl : i = l.length + 1 := by omega
        have e : (l ++ [x, y])[l.length + 1]'(by simp) = y := by
          rw [List.getElem_append_right (by omega)]; simp
        rw [e] at hk
        exact absurd hy.1 hk

theorem spell_lp {ws : List ByteArray} {ind : List It} (hind : ind = [] ∨ ∃ n : Int, 0 ≤ n ∧ n ≤ 10000 ∧ ind = [indI n]) (hws : ∀ s ∈ ws, s.size ≠ 0 ∧ 0 ≤ tw s ∧ tw s ≤ 10000) (hx6 : tw ⟨#[120]⟩ = 6) : ∀ k, 0 < k → k ≤ ws.length → Lp tw (spell tw ind ws k) := by
  have hbx : ∀ k, k < ws.length → tb tw (boxI tw (ws.getD k emp)) := fun k hk => by
    have e : ws.getD k emp = ws[k] := by simp [List.getD, hk]
    obtain ⟨h1, h2, h3⟩ := hws ws[k] (List.getElem_mem hk)
    rw [e]
    exact ⟨rfl, h1, rfl, ⟨h2, h3⟩, rfl, rfl⟩
  have hxi : tb tw xI := ⟨rfl, by decide, hx6.symm, by decide, rfl, rfl⟩
  have hgl : gd tw glueI := .inr (.inr (.inl ⟨rfl, rfl, rfl, rfl⟩))
  have hpn : gd tw penI := .inr (.inr (.inr ⟨rfl, rfl, rfl, rfl⟩))
  have tail : ∀ k (l : List It), Lp tw l → Lp tw (l ++ (if k % 3 = 2 ∧ k + 1 < ws.length then [penI, xI] else [])) := fun k l hl => by
    split
    · exact hl.snoc hpn (by decide) hxi
    · rwa [List.append_nil]
  intro k
  induction k with
  | zero => intro h; omega
  | succ k ih =>
    intro _ hk
    have hb := hbx k (by omega)
    unfold spell
    refine tail _ _ ?_
    by_cases h0 : 0 < k
    · rw [if_pos h0, List.append_assoc]
      exact (ih h0 (by omega)).snoc hgl (by decide) hb
    · obtain rfl : k = 0 := by omega
      rw [if_neg h0, List.append_nil]
      unfold spell
      rcases hind with rfl | ⟨n, n1, n2, rfl⟩
      · refine ⟨fun a ha => ?_, ⟨_, by simp, hb⟩, fun i hi hk => ?_⟩
        · obtain rfl : a = _ := by simpa using ha
          exact .inl hb
        · obtain rfl : i = 0 := by simpa using hi
          exact absurd hb.1 hk
      · refine ⟨fun a ha => ?_, ⟨_, by simp, hb⟩, fun i hi hk => ?_⟩
        · rcases List.mem_append.1 ha with h | h
          · obtain rfl : a = _ := by simpa using h
            exact .inr (.inl ⟨rfl, rfl, ⟨n1, n2⟩, rfl, rfl⟩)
          · obtain rfl : a = _ := by simpa using h
            exact .inl hb
        · simp at hi
          rcases (by omega : i = 0 ∨ i = 1) with rfl | rfl
          · exact absurd rfl hk
          · exact absurd hb.1 hk
end Go.Proofs.YtgakaomcdpgnkaaDoor
