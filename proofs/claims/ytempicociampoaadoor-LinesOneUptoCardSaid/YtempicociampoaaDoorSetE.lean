/- Plain laws of lines that are set: where they end, how their pieces stand. -/
import Derived.Test.YtempicociampoaaDoorJ1
namespace Go.Proofs.YtempicociampoaaDoor
open Go.RowKit

theorem spread_zero (d all : Int) : spread d 0 all = 0 := by unfold spread; split <;> simp
theorem spread_self {d all : Int} (h : all ≠ 0) : spread d all all = d := by
  unfold spread; rw [if_neg h]; exact Int.mul_tdiv_cancel d h
theorem spread_nil (d a : Int) : spread d a 0 = 0 := if_pos rfl
theorem spread_ediv {d a all : Int} (hd : 0 ≤ d) (ha : 0 ≤ a) : spread d a all = d * a / all := by
  unfold spread
  have := Int.mul_nonneg hd ha
  split
  · rename_i h; simp [h]
  · exact Int.tdiv_eq_ediv_of_nonneg this
theorem spread_mono {d a b all : Int} (hd : 0 ≤ d) (ha : 0 ≤ a) (hab : a ≤ b) (hall : 0 ≤ all) : spread d a all ≤ spread d b all := by
  rw [spread_ediv hd ha, spread_ediv hd (by omega)]
  by_cases h : all = 0
  · simp [h]
  · exact Int.ediv_le_ediv (by omega) (Int.mul_le_mul_of_nonneg_left hab hd)
theorem spread_one {m a z : Int} (hm : 0 ≤ m) (hmz : m ≤ z) (ha : 0 ≤ a) : spread m (a + 1) z ≤ spread m a z + 1 := by
  rw [spread_ediv hm ha, spread_ediv hm (by omega)]
  by_cases h : z = 0
  · simp [h]
  · have h1 : m * (a + 1) ≤ m * a + z := by rw [Int.mul_add]; omega
    have h2 := Int.ediv_le_ediv (a := m * (a + 1)) (b := m * a + z) (c := z) (by omega) h1
    have h3 : (m * a + z) / z = m * a / z + 1 := by rw [Int.add_ediv_of_dvd_right (Int.dvd_refl z), Int.ediv_self h]
    omega

section
variable (tw : ByteArray → Int)
def tb (x : It) : Prop := x.kind = 1 ∧ x.text.size ≠ 0 ∧ x.w = tw x.text ∧ (0 ≤ x.w ∧ x.w ≤ 10000) ∧ x.y = 0 ∧ x.z = 0
def gd (x : It) : Prop := tb tw x ∨ (x.kind = 1 ∧ x.text.size = 0 ∧ (0 ≤ x.w ∧ x.w ≤ 10000) ∧ x.y = 0 ∧ x.z = 0) ∨ (x.kind = 2 ∧ x.w = 4 ∧ x.y = 2 ∧ x.z = 1) ∨ (x.kind = 3 ∧ x.w = 4 ∧ x.y = 0 ∧ x.z = 0)

def cur (d : Int) (s a : Sm) : Int := a.w + moved d s a

variable {tw}
theorem cur_step {d : Int} {s a : Sm} {x : It} (hx : gd tw x) (h1 : -s.z ≤ d) (h2 : 0 ≤ s.y) (_h3 : 0 ≤ s.z) (h4 : 0 ≤ a.y) (h5 : 0 ≤ a.z) :
    cur d s a ≤ cur d s (a.step x) ∧ (tb tw x → cur d s (a.step x) = cur d s a + x.w) ∧ 0 ≤ (a.step x).y ∧ 0 ≤ (a.step x).z := by
  have same : ∀ b : Sm, b.y = a.y → b.z = a.z → moved d s b = moved d s a := fun b e1 e2 => by unfold moved; rw [e1, e2]
  have box : x.kind = 1 → (0 ≤ x.w ∧ x.w ≤ 10000) → x.y = 0 → x.z = 0 → a.step x = ⟨a.w + x.w, a.y, a.z⟩ := fun k b e1 e2 => by
    unfold Sm.step; rw [if_neg (by omega), plain_eq b.1 b.2, e1, e2, show plain 0 = 0 by decide]; simp
  rcases hx with hx | ⟨k, -, b, e1, e2⟩ | ⟨k, e0, e1, e2⟩ | ⟨k, e0, e1, e2⟩
  · obtain ⟨k, -, -, b, e1, e2⟩ := hx
    rw [box k b e1 e2]
    have := same ⟨a.w + x.w, a.y, a.z⟩ rfl rfl
    unfold cur
    refine ⟨by simp only [this]; omega, fun _ => by simp only [this]; omega, h4, h5⟩
  · rw [box k b e1 e2]
    have := same ⟨a.w + x.w, a.y, a.z⟩ rfl rfl
    unfold cur
    refine ⟨by simp only [this]; omega, fun _ => by simp only [this]; omega, h4, h5⟩
  · have e : a.step x = ⟨a.w + 4, a.y + 2, a.z + 1⟩ := by
      unfold Sm.step; rw [if_neg (by omega), e0, e1, e2, show plain 4 = 4 by decide, show plain 2 = 2 by decide, show plain 1 = 1 by decide]
    rw [e]
    refine ⟨?_, fun h => ?_, by simp only []; omega, by simp only []; omega⟩
    · unfold cur moved
      simp only []
      split
      · rename_i hd
        have := spread_mono (b := a.y + 2) hd h4 (by omega) h2
        omega
      · have := spread_one (m := min (-d) s.z) (a := a.z) (z := s.z) (by omega) (by omega) h5
        omega
    · obtain ⟨k', -⟩ := h; omega
  · have e : a.step x = ⟨a.w, a.y, a.z⟩ := by
      unfold Sm.step; rw [if_pos k, e1, e2, show plain 0 = 0 by decide]; simp
    rw [e]
    exact ⟨Int.le_refl _, fun h => by obtain ⟨k', -⟩ := h; omega, h4, h5⟩

theorem pcs_facts {d : Int} {s : Sm} (h1 : -s.z ≤ d) (h2 : 0 ≤ s.y) (h3 : 0 ≤ s.z) : ∀ (l : List It) (a : Sm), (∀ x ∈ l, gd tw x) → 0 ≤ a.y → 0 ≤ a.z →
    (∀ p ∈ pcs d s a l, cur d s a ≤ p.1 ∧ 0 ≤ tw p.2 ∧ p.1 + tw p.2 ≤ cur d s (l.foldl Sm.step a)) ∧ (pcs d s a l).Pairwise (fun p q => p.1 + tw p.2 ≤ q.1) ∧ cur d s a ≤ cur d s (l.foldl Sm.step a) := by
  intro l
  induction l with
  | nil => intro a _ _ _; exact ⟨by simp [pcs], by simp [pcs], Int.le_refl _⟩
  | cons x l ih =>
    intro a hl h4 h5
    obtain ⟨c1, c2, c3, c4⟩ := cur_step (hl x (by simp)) h1 h2 h3 h4 h5
    obtain ⟨i1, i2, i3⟩ := ih (a.step x) (fun y hy => hl y (by simp [hy])) c3 c4
    simp only [pcs, List.foldl_cons]
    split
    · rename_i hb
      have htb : tb tw x := by
        rcases hl x (by simp) with h | ⟨-, h, -⟩ | ⟨h, -⟩ | ⟨h, -⟩
        · exact h
        · exact absurd h hb.2
        · omega
        · omega
      have c2' := c2 htb
      obtain ⟨k, hs, hw, hb2, -⟩ := htb
      refine ⟨fun p hp => ?_, List.pairwise_cons.2 ⟨fun q hq => ?_, i2⟩, by omega⟩
      · rcases List.mem_cons.1 hp with rfl | hp
        · refine ⟨Int.le_refl _, by simp only []; omega, ?_⟩
          simp only []; unfold cur at *; omega
        · obtain ⟨j1, j2, j3⟩ := i1 p hp
          exact ⟨by omega, j2, j3⟩
      · obtain ⟨j1, j2, j3⟩ := i1 q hq
        simp only []; unfold cur at *; omega
    · refine ⟨fun p hp => ?_, i2, by omega⟩
      obtain ⟨j1, j2, j3⟩ := i1 p hp
      exact ⟨by omega, j2, j3⟩

def endW (tw : ByteArray → Int) (ps : List (Int × ByteArray)) : Int := match ps.getLast? with | none => 0 | some p => p.1 + tw p.2

/-- WHERE A LINE ENDS, and how its pieces stand. -/
theorem ends {l m' : List It} {x : It} {f t : Nat} {d : Int} (hft : f < t) (hm : mid l f t = m' ++ [x]) (hg : ∀ y ∈ mid l f t, gd tw y) (hx : tb tw x) (hdash : tw dash = 4) (hpen : ∀ y, l[t]? = some y → y.kind = 3 → y.w = 4)
    (h1 : -(lineSm l f t).z ≤ d) :
    endW tw (allPcs d (lineSm l f t) l f t) = (lineSm l f t).w + (if 0 ≤ d then (if (lineSm l f t).y = 0 then 0 else d) else d) ∧
    (allPcs d (lineSm l f t) l f t).Pairwise (fun p q => p.1 + tw p.2 ≤ q.1) ∧ (∀ p ∈ allPcs d (lineSm l f t) l f t, 0 ≤ p.1 ∧ 0 ≤ tw p.2) ∧ allPcs d (lineSm l f t) l f t ≠ [] := by
  have es : lineSm l f t = ⟨(smOf (mid l f t)).w + penW l t, (smOf (mid l f t)).y, (smOf (mid l f t)).z⟩ := if_pos hft
  obtain ⟨⟨b1, b2⟩, ⟨b3, b4⟩, ⟨b5, b6⟩⟩ := lineSm_bd l f t
  generalize lineSm l f t = s at *
  have sy : s.y = (smOf (mid l f t)).y := by rw [es]
  have sz : s.z = (smOf (mid l f t)).z := by rw [es]
  have sw' : s.w = (smOf (mid l f t)).w + penW l t := by rw [es]
  obtain ⟨p1, p2, p3⟩ := pcs_facts h1 b3 b5 (mid l f t) ⟨0, 0, 0⟩ hg (Int.le_refl _) (Int.le_refl _)
  have hz0 : cur d s ⟨0, 0, 0⟩ = 0 := by unfold cur moved; simp [spread_zero]
  have he : ∀ a : Sm, a.y = s.y → a.z = s.z → moved d s a = if 0 ≤ d then (if s.y = 0 then 0 else d) else d := by
    intro a e1 e2
    unfold moved
    rw [e1, e2]
    split
    · split
      · rename_i h; rw [h, spread_nil]
      · rename_i h; exact spread_self h
    · by_cases hz : s.z = 0
      · omega
      · rw [spread_self hz]; omega
  have hsm : smOf (mid l f t) = ⟨(smOf m').w + x.w, (smOf m').y, (smOf m').z⟩ := by
    rw [hm, smOf_snoc]
    obtain ⟨k, -, -, b, e1, e2⟩ := hx
    unfold Sm.step; rw [if_neg (by omega), plain_eq b.1 b.2, e1, e2, show plain 0 = 0 by decide]; simp
  have hps : pcsOf d s (mid l f t) = pcsOf d s m' ++ [((smOf m').w + moved d s (smOf m'), x.text)] := by
    rw [hm]; exact pcsOf_hit d s m' x hx.1 hx.2.1
  have ey : (smOf m').y = s.y := by rw [sy, hsm]
  have ez : (smOf m').z = s.z := by rw [sz, hsm]
  have hfold : (mid l f t).foldl Sm.step ⟨0, 0, 0⟩ = smOf (mid l f t) := rfl
  rw [hfold] at p1 p3
  have hall : ∀ p ∈ pcsOf d s (mid l f t), 0 ≤ p.1 ∧ 0 ≤ tw p.2 := fun p hp => by
    obtain ⟨j1, j2, -⟩ := p1 p hp
    exact ⟨by omega, j2⟩
  by_cases hp : isPen l t = true
  · have hw4 : penW l t = 4 := by
      unfold isPen at hp
      unfold penW
      split at hp
      · rename_i y hy
        have hk : y.kind = 3 := by simpa using hp
        simp only [if_pos hk, hpen y hy hk]; decide
      · cases hp
    have ea : allPcs d s l f t = pcsOf d s (mid l f t) ++ [((smOf (mid l f t)).w + moved d s (smOf (mid l f t)), dash)] := by unfold allPcs; rw [if_pos hp]
    rw [ea]
    refine ⟨?_, ?_, ?_, by simp⟩
    · unfold endW
      rw [List.getLast?_append]
      simp only [List.getLast?_singleton, Option.some_or]
      rw [he _ sy.symm sz.symm, hdash, sw', hw4]; omega
    · refine List.pairwise_append.2 ⟨p2, by simp, fun p hp q hq => ?_⟩
      obtain rfl : q = _ := by simpa using hq
      exact (p1 p hp).2.2
    · intro p hpm
      rcases List.mem_append.1 hpm with h | h
      · exact hall p h
      · obtain rfl : p = _ := by simpa using h
        refine ⟨?_, by rw [hdash]; decide⟩
        have : cur d s ⟨0, 0, 0⟩ ≤ cur d s (smOf (mid l f t)) := p3
        rw [hz0] at this
        exact this
  · have hw0 : penW l t = 0 := by
      unfold isPen at hp
      unfold penW
      split
      · rename_i y hy
        rw [hy] at hp
        have hk : ¬ y.kind = 3 := by simpa using hp
        rw [if_neg hk]
      · rfl
    have ea : allPcs d s l f t = pcsOf d s (mid l f t) := by unfold allPcs; rw [if_neg hp]; simp
    rw [ea]
    refine ⟨?_, p2, hall, by rw [hps]; simp⟩
    rw [hps]
    unfold endW
    rw [List.getLast?_append]
    simp only [List.getLast?_singleton, Option.some_or]
    rw [he _ ey ez, ← hx.2.2.1, sw', hw0, hsm]; simp only []; omega
end
end Go.Proofs.YtempicociampoaaDoor
