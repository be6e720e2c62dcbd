/- Plain laws of what differs. -/
import Derived.Test.YtcjaeamfddhilaaDiffD
namespace Go.Proofs.Ytcjaeamfddhilaa
open Go.RowKit

def sw (k : Int) : Int := if k = 1 then 2 else if k = 2 then 1 else k
theorem sw_bd {k : Int} (h1 : 1 ≤ k) (h2 : k ≤ 3) : 1 ≤ sw k ∧ sw k ≤ 3 := by
  rcases (by omega : k = 1 ∨ k = 2 ∨ k = 3) with rfl | rfl | rfl <;> decide
def flipc (x : Int) : Int := 4 * (x / 4) + sw (x % 4)

theorem kindL_sw (a b : List (List Int)) (i : Nat) (h : i < max a.length b.length) : kindL b a i = sw (kindL a b i) := by
  unfold kindL sw
  by_cases h1 : b.length ≤ i
  · rw [if_neg (by omega), if_pos h1, if_pos h1]; simp
  · by_cases h2 : a.length ≤ i
    · rw [if_pos h2, if_neg h1, if_pos h2]; simp
    · rw [if_neg h2, if_neg h1, if_neg h1, if_neg h2]
      by_cases h3 : a[i]? = b[i]?
      · simp [h3]
      · rw [if_neg h3, if_neg (fun e => h3 e.symm)]; simp

theorem codes_flip (a b : List (List Int)) : codes (plList b a) = (codes (plList a b)).map flipc := by
  have key : ∀ l : List Nat, (∀ i ∈ l, i < max a.length b.length) → codes (l.map fun i => (i, kindL b a i)) = (codes (l.map fun i => (i, kindL a b i))).map flipc := by
    intro l
    induction l with
    | nil => intro _; rfl
    | cons i l ih =>
      intro hl
      have h1 := kindL_sw a b i (hl i (by simp))
      have h2 := ih (fun j hj => hl j (by simp [hj]))
      have h3 := kindL_bd a b i
      simp only [codes, List.map_cons, List.filterMap_cons] at h2 ⊢
      by_cases h0 : 0 < kindL a b i
      · have h4 : 0 < sw (kindL a b i) := by have := (sw_bd h0 h3.2).1; omega
        simp only [code, h0, h1, h4, if_true, List.map_cons, h2]
        congr 1
        have e1 : (4 * (i : Int) + kindL a b i) / 4 = i := by omega
        have e2 : (4 * (i : Int) + kindL a b i) % 4 = kindL a b i := by omega
        rw [flipc, e1, e2]
      · have h5 : kindL a b i = 0 := by omega
        have h4 : ¬ 0 < sw (kindL a b i) := by rw [h5]; decide
        simp only [code, h0, h1, h4, if_false, h2]
  have := key (List.range (max a.length b.length)) (fun i hi => by simpa using hi)
  rw [plList, Nat.max_comm b.length]
  exact this

theorem codes_form {a b : List (List Int)} {x : Int} (h : x ∈ codes (plList a b)) : ∃ (i : Nat) (k : Int), x = 4 * i + k ∧ 1 ≤ k ∧ k ≤ 3 ∧ k = kindL a b i ∧ i < max a.length b.length := by
  obtain ⟨y, hy, hc⟩ := List.mem_filterMap.1 h
  obtain ⟨i, hi, rfl⟩ := List.mem_map.1 hy
  have h3 := kindL_bd a b i
  unfold code at hc
  split at hc
  · rename_i h0
    exact ⟨i, kindL a b i, by simpa using hc.symm, by simp only [] at h0; omega, h3.2, rfl, by simpa using hi⟩
  · cases hc

theorem codes_self (a : List (List Int)) : codes (plList a a) = [] := by
  refine List.eq_nil_iff_forall_not_mem.2 fun x hx => ?_
  obtain ⟨i, k, _, h1, _, h2, h3⟩ := codes_form hx
  have : kindL a a i = 0 := by
    unfold kindL
    rw [if_neg (by omega), if_neg (by omega), if_pos rfl]
  omega

theorem codes_count (a b : List (List Int)) : (codes (plList a b)).length + same (plList a b) = max a.length b.length := by
  have key : ∀ l : List (Nat × Int), (∀ x ∈ l, 0 ≤ x.2) → (codes l).length + same l = l.length := by
    intro l
    induction l with
    | nil => intro _; rfl
    | cons x l ih =>
      intro hl
      have h1 := ih (fun y hy => hl y (by simp [hy]))
      have h2 := hl x (by simp)
      unfold codes same at h1 ⊢
      rw [List.filterMap_cons, List.filter_cons]
      by_cases h0 : 0 < x.2
      · have : ¬ x.2 = 0 := by omega
        simp only [code, h0, if_true, this, beq_iff_eq, if_false, List.length_cons]; omega
      · have : x.2 = 0 := by omega
        simp only [code, this, beq_self_eq_true, if_true, List.length_cons]
        simp; omega
  have := key (plList a b) (fun x hx => by
    obtain ⟨i, _, rfl⟩ := List.mem_map.1 hx
    exact (kindL_bd a b i).1)
  rw [this]; simp [plList]

theorem codes_rise (a b : List (List Int)) : (codes (plList a b)).Pairwise (· < ·) := by
  have key : ∀ k : Nat, ((codes ((List.range k).map fun i => (i, kindL a b i))).Pairwise (· < ·)) ∧ ∀ x ∈ codes ((List.range k).map fun i => (i, kindL a b i)), x < 4 * k := by
    intro k
    induction k with
    | zero => exact ⟨by simp [codes], by simp [codes]⟩
    | succ k ih =>
      have h3 := kindL_bd a b k
      rw [List.range_succ, List.map_append]
      by_cases h0 : 0 < kindL a b k
      · rw [List.map_singleton, codes_hit _ _ h0]
        refine ⟨List.pairwise_append.2 ⟨ih.1, by simp, fun x hx y hy => ?_⟩, fun x hx => ?_⟩
        · obtain rfl : y = _ := by simpa using hy
          have := ih.2 x hx
          omega
        · rcases List.mem_append.1 hx with hx | hx
          · have := ih.2 x hx; omega
          · obtain rfl : x = _ := by simpa using hx
            omega
      · rw [List.map_singleton, codes_miss _ _ h0]
        exact ⟨ih.1, fun x hx => by have := ih.2 x hx; omega⟩
  exact (key _).1

/-- what the law asks of a place -/
theorem turn_at {x : Int} {i : Nat} {k : Int} (hx : x = 4 * i + k) (h1 : 1 ≤ k) (h2 : k ≤ 3) :
    placeN (flipc x) = i ∧ placeN x = i ∧ kindN x = k ∧ kindN (flipc x) = sw k ∧ 0 ≤ flipc x ∧ flipc x ≤ 4 * i + 3 := by
  have e1 : x / 4 = i := by omega
  have e2 : x % 4 = k := by omega
  have hs := sw_bd h1 h2
  have hf : flipc x = 4 * i + sw k := by rw [flipc, e1, e2]
  have k1 : kindN x = k := by unfold kindN; rw [if_pos (by omega)]; omega
  have k2 : kindN (flipc x) = sw k := by unfold kindN; rw [if_pos (by omega), hf]; omega
  refine ⟨?_, ?_, k1, k2, by omega, by omega⟩
  · unfold placeN; rw [if_neg (by omega), hf]; omega
  · unfold placeN; rw [if_neg (by omega)]; exact e1
end Go.Proofs.Ytcjaeamfddhilaa
