/- The plain law of SettingEnds. -/
import Derived.Test.YtgakaomcdpgnkaaDoorSetF
namespace Go.Proofs.YtgakaomcdpgnkaaDoor
open Go.RowKit

theorem ends_law {tw : ByteArray → Int} {l : List It} (hl : Lp tw l) (hdash : tw dash = 4) {from_ : Int} {t : Nat} (ht : (t : Int) ∈ brk l) (hf : from_ = -1 ∨ (from_ ∈ brk l ∧ from_ < t)) {n : Int} (hn0 : 0 ≤ n) (hn1 : n ≤ 255)
    {s : Sm} (hs : lineSm l (firstL l from_) (upto t l.length) = s) (hw1 : s.w ≤ 9000) {wd : Int} (hwd : wd = s.w - min s.z s.w + n) :
    endW tw (setL l from_ t wd false) = (if wd < s.w ∨ 0 < s.y then wd else s.w) ∧ endW tw (setL l from_ t (s.w + n) true) = s.w ∧
    (setL l from_ t wd false).length = (setL l from_ t (s.w + n) true).length ∧ setL l from_ t wd false ≠ [] ∧
    (setL l from_ t wd false).Pairwise (fun p q => p.1 + tw p.2 ≤ q.1) ∧ (∀ p ∈ setL l from_ t wd false, 0 ≤ p.1 ∧ 0 ≤ tw p.2) ∧
    (setL l from_ t (s.w + n) true).Pairwise (fun p q => p.1 + tw p.2 ≤ q.1) ∧ (∀ p ∈ setL l from_ t (s.w + n) true, 0 ≤ p.1 ∧ 0 ≤ tw p.2) := by
  obtain ⟨hu, hft, ⟨m', x, hm, hx⟩, hg, hp⟩ := hl.line ht hf
  have hbd := lineSm_bd l (firstL l from_) (upto t l.length)
  rw [hs] at hbd
  obtain ⟨⟨b1, b2⟩, ⟨b3, b4⟩, ⟨b5, b6⟩⟩ := hbd
  have hpw : plain wd = wd := plain_eq (by omega) (by omega)
  have hpe : plain (s.w + n) = s.w + n := plain_eq (by omega) (by omega)
  rw [hu] at hs
  have e1 : setL l from_ t wd false = allPcs (wd - s.w) s l (firstL l from_) t := by
    unfold setL
    rw [hu, if_pos hft, hs]
    unfold needOf
    rw [hpw]; rfl
  have e2 : setL l from_ t (s.w + n) true = allPcs 0 s l (firstL l from_) t := by
    unfold setL
    rw [hu, if_pos hft, hs]
    unfold needOf
    rw [hpe, if_pos rfl, show min (s.w + n - s.w) 0 = 0 by omega]
  have h1 := ends (d := wd - s.w) hft hm hg hx hdash hp (by rw [hs]; omega)
  have h2 := ends (d := 0) hft hm hg hx hdash hp (by rw [hs]; omega)
  rw [hs] at h1 h2
  rw [e1, e2]
  obtain ⟨f1, f2, f3, f4⟩ := h1
  obtain ⟨g1, g2, g3, -⟩ := h2
  refine ⟨?_, ?_, ?_, f4, f2, f3, g2, g3⟩
  · rw [f1]
    split <;> split <;> (try split) <;> omega
  · rw [g1]; simp
  · unfold allPcs
    rw [List.length_append, List.length_append]
    unfold pcsOf
    rw [pcs_len (wd - s.w) 0 s s]
    split <;> rfl

theorem le_end {tw : ByteArray → Int} {ps : List (Int × ByteArray)} (hp : ps.Pairwise (fun p q => p.1 + tw p.2 ≤ q.1)) (hn : ∀ p ∈ ps, 0 ≤ p.1 ∧ 0 ≤ tw p.2) : ∀ p ∈ ps, p.1 ≤ endW tw ps := by
  intro p hm
  rcases List.eq_nil_or_concat ps with rfl | ⟨l, x, rfl⟩
  · cases hm
  · rw [List.concat_eq_append] at hp hn hm ⊢
    have e : endW tw (l ++ [x]) = x.1 + tw x.2 := by unfold endW; simp
    rw [e]
    have hx := hn x (by simp)
    rcases List.mem_append.1 hm with h | h
    · have := (List.pairwise_append.1 hp).2.2 p h x (by simp)
      have := hn p (by simp [h])
      omega
    · obtain rfl : p = x := by simpa using h
      omega
theorem pcs_text (d : Int) (s : Sm) : ∀ (l : List It) (a : Sm) (p : Int × ByteArray), p ∈ pcs d s a l → ∃ x ∈ l, p.2 = x.text := by
  intro l
  induction l with
  | nil => intro a p h; simp [pcs] at h
  | cons x l ih =>
    intro a p h
    simp only [pcs] at h
    split at h
    · rcases List.mem_cons.1 h with rfl | h
      · exact ⟨x, by simp, rfl⟩
      · obtain ⟨y, hy, e⟩ := ih _ _ h
        exact ⟨y, by simp [hy], e⟩
    · obtain ⟨y, hy, e⟩ := ih _ _ h
      exact ⟨y, by simp [hy], e⟩
theorem setL_text {l : List It} {a b c : Int} {z : Bool} {p : Int × ByteArray} (h : p ∈ setL l a b c z) : p.2 = dash ∨ ∃ x ∈ l, p.2 = x.text := by
  unfold setL at h
  split at h
  · unfold allPcs at h
    rcases List.mem_append.1 h with h | h
    · obtain ⟨x, hx, e⟩ := pcs_text _ _ _ _ _ h
      exact .inr ⟨x, List.mem_of_mem_take (List.mem_of_mem_drop hx), e⟩
    · split at h
      · obtain rfl : p = _ := by simpa using h
        exact .inl rfl
      · cases h
  · cases h
end Go.Proofs.YtgakaomcdpgnkaaDoor
