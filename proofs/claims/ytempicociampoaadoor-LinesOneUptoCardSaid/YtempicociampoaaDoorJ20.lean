/- Plain laws of lines: where a way's line ends, how its first pieces stand. Plain laws of lines: where pieces stand apart, there is a glue. Plain laws of lines: a line that is not overfull ends at the width, or ahead of it. Plain laws of lines: a part's items are in order. Plain laws of a part's lines: where pieces stand at most, the text, the flags. Words' numbers, tried out. The walk of layer 14's wakes. Plain laws of a word's items: their texts, their pens; of a part of two words. The lines that chapter 19's wakes asks for. -/
import Derived.Test.YtempicociampoaaDoorLnU
import Derived.Test.YtempicociampoaaDoorJ19
import Derived.Test.YtempicociampoaaDoorLnK
import Derived.Test.YtempicociampoaaDoorJ5
import Derived.Test.YtempicociampoaaDoorJ12
namespace Go.Proofs.YtempicociampoaaDoor
open Go.RowKit

section
variable {tw : ByteArray → Int}
theorem moved_all {d : Int} {s a : Sm} (_h3 : 0 ≤ s.z) (e1 : a.y = s.y) (e2 : a.z = s.z) : moved d s a = if 0 ≤ d then (if s.y = 0 then 0 else d) else -(min (-d) s.z) := by
  unfold moved
  rw [e1, e2]
  split
  · split
    · rename_i h; rw [h, spread_nil]
    · rename_i h; exact spread_self h
  · by_cases hz : s.z = 0
    · rw [hz, spread_nil]; omega
    · rw [spread_self hz]
/-- where a line ends -/
theorem Wl.ends {l : List It} (hl : Wl tw l) (hdash : tw dash = 4) (hpw : ∀ x ∈ l, x.kind = 3 → x.w = 4) {f t : Nat} (hf : stp l f) (hft : f < t) (h1 : t ≤ l.length) (h2 : ∀ x, l[t]? = some x → x.kind ≠ 1) (d : Int) :
    endW tw (allPcs d (lineSm l f t) l f t) = (lineSm l f t).w + (if 0 ≤ d then (if (lineSm l f t).y = 0 then 0 else d) else -(min (-d) (lineSm l f t).z)) ∧ allPcs d (lineSm l f t) l f t ≠ [] := by
  have es : lineSm l f t = ⟨(smOf (mid l f t)).w + penW l t, (smOf (mid l f t)).y, (smOf (mid l f t)).z⟩ := if_pos hft
  have hsb := lineSm_bd l f t
  generalize lineSm l f t = s at *
  have sy : (smOf (mid l f t)).y = s.y := by rw [es]
  have sz : (smOf (mid l f t)).z = s.z := by rw [es]
  have sw' : s.w = (smOf (mid l f t)).w + penW l t := by rw [es]
  obtain ⟨x, hx, hxb⟩ := hl.ahead (by omega) h1 h2
  have hw := ((hl.lw hf (t - 1) (by omega) x hx).1 hxb).text (d := d) hsb.2.1.1 hsb.2.2.1
  rw [show t - 1 + 1 = t by omega] at hw
  obtain ⟨w1, w2, -⟩ := hw
  have hm := moved_all (d := d) hsb.2.2.1 sy sz
  unfold cur at w2
  rw [hm] at w2
  unfold allPcs
  by_cases hp : isPen l t = true
  · rw [if_pos hp, endW_snoc, hm, hdash]
    have hw4 : penW l t = 4 := by
      unfold isPen at hp
      unfold penW
      split at hp
      · rename_i y hy
        have hk : y.kind = 3 := by simpa using hp
        simp only [if_pos hk, hpw y (List.mem_of_getElem? hy) hk]; decide
      · cases hp
    exact ⟨by dsimp only; omega, by simp⟩
  · rw [if_neg hp, List.append_nil]
    have hw0 : penW l t = 0 := by
      unfold isPen at hp
      unfold penW
      split
      · rename_i y hy
        rw [hy] at hp
        rw [if_neg (by simpa using hp)]
      · rfl
    exact ⟨by omega, w1⟩
end
end Go.Proofs.YtempicociampoaaDoor
namespace Go.Proofs.YtempicociampoaaDoor
open Go.RowKit

section
variable {tw : ByteArray → Int}
end
end Go.Proofs.YtempicociampoaaDoor
namespace Go.Proofs.YtempicociampoaaDoor
open Go.RowKit

section
variable {tw : ByteArray → Int}
end
end Go.Proofs.YtempicociampoaaDoor
namespace Go.Proofs.YtempicociampoaaDoor
open Go.RowKit

section
variable {tw : ByteArray → Int}
theorem two_lt {l : List It} {x y : It} {i : Nat} (h : i < l.length) : (l ++ [x, y])[i]? = l[i]? := List.getElem?_append_left h
theorem two_at (l : List It) (x y : It) : (l ++ [x, y])[l.length]? = some x := by rw [List.getElem?_append_right (Nat.le_refl _), Nat.sub_self]; rfl
theorem two_at1 (l : List It) (x y : It) : (l ++ [x, y])[l.length + 1]? = some y := by rw [List.getElem?_append_right (by omega), show l.length + 1 - l.length = 1 by omega]; rfl
theorem two_ge {l : List It} {x y : It} {i : Nat} (h : l.length + 2 ≤ i) : (l ++ [x, y])[i]? = none := List.getElem?_eq_none (by simp; omega)
/-- a glue or a Pen more, and a Box of text -/
theorem Wl.snoc2 {l : List It} {x y : It} (hl : Wl tw l) (hx : glW x ∨ peX x) (hy : tb tw y) (hp : x.kind = 3 → y.text.data.toList ≠ [45]) : Wl tw (l ++ [x, y]) := by
  have hk : x.kind ≠ 1 := by rcases hx with h | h <;> (have := h.1; omega)
  obtain ⟨h0, hh0, hh1⟩ := hl.head
  have hn : 0 < l.length := (List.getElem?_eq_some_iff.1 hh0).1
  have split : ∀ i z, (l ++ [x, y])[i]? = some z → (i < l.length ∧ l[i]? = some z) ∨ (i = l.length ∧ z = x) ∨ (i = l.length + 1 ∧ z = y) := fun i z h => by
    by_cases h1 : i < l.length
    · rw [two_lt h1] at h; exact .inl ⟨h1, h⟩
    · by_cases h2 : i = l.length
      · subst h2; rw [two_at] at h; exact .inr (.inl ⟨rfl, (Option.some.inj h).symm⟩)
      · by_cases h3 : i = l.length + 1
        · subst h3; rw [two_at1] at h; exact .inr (.inr ⟨rfl, (Option.some.inj h).symm⟩)
        · rw [two_ge (by omega)] at h; cases h
  refine ⟨fun z hz => ?_, ⟨h0, by rw [two_lt hn]; exact hh0, hh1⟩, fun i z hz he => ?_, fun i z hz hzk => ?_, ⟨y, ?_, hy⟩, fun i a b ha hb hat => ?_⟩
  · rcases List.mem_append.1 hz with h | h
    · exact hl.good z h
    · rcases List.mem_cons.1 h with rfl | h
      · rcases hx with h | h
        · exact .inr (.inr (.inl h))
        · exact .inr (.inr (.inr h))
      · obtain rfl := List.mem_singleton.1 h; exact .inl hy
  · rcases split i z hz with ⟨h1, h2⟩ | ⟨-, rfl⟩ | ⟨-, rfl⟩
    · exact hl.emp i z h2 he
    · exact absurd he.1 hk
    · exact absurd he.2.1 hy.2.1
  · rcases split i z hz with ⟨h1, h2⟩ | ⟨rfl, rfl⟩ | ⟨-, rfl⟩
    · obtain ⟨n1, ⟨a, ha, hab⟩, b, hb, hbb, hb3⟩ := hl.near i z h2 hzk
      have hb1 := (List.getElem?_eq_some_iff.1 hb).1
      exact ⟨n1, ⟨a, by rw [two_lt (by omega)]; exact ha, hab⟩, b, by rw [two_lt hb1]; exact hb, hbb, hb3⟩
    · obtain ⟨a, ha, hab⟩ := hl.last
      exact ⟨hn, ⟨a, by rw [two_lt (by omega)]; exact ha, hab⟩, y, two_at1 l z y, hy, hp⟩
    · exact absurd hy.1 hzk
  · rw [List.length_append]
    exact two_at1 l x y
  · rcases split i a ha with ⟨h1, h2⟩ | ⟨-, rfl⟩ | ⟨h1, -⟩
    · rcases split (i + 1) b hb with ⟨h3, h4⟩ | ⟨-, rfl⟩ | ⟨h3, -⟩
      · exact hl.alt i a b h2 h4 hat
      · exact hk
      · omega
    · exact absurd hat.1 hk
    · rw [two_ge (by omega)] at hb; cases hb
/-- a beginning, behind which a Box of text may stand -/
def Opn (tw : ByteArray → Int) (l : List It) : Prop := ∀ y, tb tw y → Wl tw (l ++ [y])
theorem opn_nil : Opn tw [] := fun y hy => by
  refine ⟨fun z hz => ?_, ⟨y, rfl, hy.1⟩, fun i z hz he => ?_, fun i z hz hk => ?_, ⟨y, rfl, hy⟩, fun i a b ha hb _ => ?_⟩
  · obtain rfl : z = y := by simpa using hz
    exact .inl hy
  · match i, hz with
    | 0, _ => rfl
    | i + 1, hz => simp at hz
  · match i, hz with
    | 0, hz => cases hz; exact absurd hy.1 hk
    | i + 1, hz => simp at hz
  · simp at hb
theorem opn_em {e : It} (he : emB e) : Opn tw [e] := fun y hy => by
  refine ⟨fun z hz => ?_, ⟨e, rfl, he.1⟩, fun i z hz hze => ?_, fun i z hz hk => ?_, ⟨y, rfl, hy⟩, fun i a b ha hb hat => ?_⟩
  · rcases List.mem_cons.1 hz with rfl | h
    · exact .inr (.inl he)
    · obtain rfl : z = y := by simpa using h
      exact .inl hy
  · match i, hz with
    | 0, _ => rfl
    | 1, hz => cases hz; exact absurd hze.2.1 hy.2.1
    | i + 2, hz => simp at hz
  · match i, hz with
    | 0, hz => cases hz; exact absurd he.1 hk
    | 1, hz => cases hz; exact absurd hy.1 hk
    | i + 2, hz => simp at hz
  · match i, ha, hb with
    | 0, ha, _ => cases ha; exact absurd he.2.1 hat.2.1
    | i + 1, _, hb => simp at hb
theorem Wl.opn {l : List It} (hl : Wl tw l) {x : It} (hx : glW x) : Opn tw (l ++ [x]) := fun y hy => by
  have := hl.snoc2 (.inl hx) hy (fun h => by have := hx.1; omega)
  rwa [show l ++ [x, y] = l ++ [x] ++ [y] by simp] at this
end
/-- words that count: of some text, not too long -/
def okW (s : ByteArray) : Prop := s.size ≠ 0 ∧ s.size ≤ 1000
theorem box_tb {s : ByteArray} (h : okW s) : tb tm (boxT s) := by
  have := tm_bd s
  exact ⟨rfl, h.1, rfl, ⟨this.1, by have h2 := h.2; show tm s ≤ 10000; omega⟩, rfl, rfl⟩
theorem cutAt_lt {s : ByteArray} (hs : s.size ≠ 0) {k : Nat} (h : k < (cuts s).length) : cutAt s k < cutAt s (k + 1) := by
  have hp := points_ok s.data.toList
  have hst : (cuts s).Pairwise (· < ·) := by
    unfold cuts
    refine List.pairwise_append.2 ⟨hp.2.1, List.pairwise_singleton _ _, fun a ha b hb => ?_⟩
    obtain rfl : b = (s.size : Int) := by simpa using hb
    have := hp.1 a ha
    rw [size_toList] at this; omega
  cases k with
  | zero =>
    show 0 < (cuts s).getD 0 0
    rw [List.getD_eq_getElem?_getD, List.getElem?_eq_getElem h]
    have hm : (cuts s)[0] ∈ cuts s := List.getElem_mem _
    show 0 < (cuts s)[0]
    rcases List.mem_append.1 hm with h9 | h9
    · exact (hp.1 _ h9).1
    · have : (cuts s)[0] = (s.size : Int) := by simpa using h9
      omega
  | succ k =>
    show (cuts s).getD k 0 < (cuts s).getD (k + 1) 0
    rw [List.getD_eq_getElem?_getD, List.getD_eq_getElem?_getD, List.getElem?_eq_getElem h, List.getElem?_eq_getElem (by omega)]
    exact List.pairwise_iff_getElem.1 hst k (k + 1) (by omega) h (by omega)
theorem piece_ok {s : ByteArray} (hs : okW s) {k : Nat} (h : k < (cuts s).length) : okW (pieceAt s k) := by
  have h1 := cutAt_lt hs.1 h
  have h2 := cutAt_bd s k
  have h3 := cutAt_bd s (k + 1)
  have e : (pieceAt s k).size = (cutAt s (k + 1)).toNat - (cutAt s k).toNat := by
    rw [← size_toList]
    unfold pieceAt
    rw [ba_extract, List.length_drop, List.length_take, size_toList]
    omega
  have := hs.2
  exact ⟨by rw [e]; omega, by rw [e]; omega⟩
theorem piece_dash {s : ByteArray} {k : Nat} (h0 : 0 < k) (h : k < (cuts s).length) : (pieceAt s k).data.toList ≠ [45] := by
  have hn : numbersL s.data.toList ≠ [] := fun h9 => by
    unfold cuts at h
    rw [h9] at h
    simp [pointsL] at h
    omega
  have hlet : ∀ c ∈ s.data.toList, isLet c = true := by
    unfold numbersL at hn
    cases hs : smallL s.data.toList with
    | none => rw [hs] at hn; exact absurd rfl hn
    | some lw =>
      unfold smallL at hs
      split at hs
      · rename_i hc; exact List.all_eq_true.1 hc.1
      · cases hs
  intro h9
  have hm : (45 : UInt8) ∈ (pieceAt s k).data.toList := by rw [h9]; simp
  unfold pieceAt at hm
  rw [ba_extract] at hm
  have := hlet 45 (List.mem_of_mem_take (List.mem_of_mem_drop hm))
  exact absurd this (by decide)
/-- a word more, behind a beginning -/
theorem Opn.word {l : List It} (hl : Opn tm l) (c : Int) {s : ByteArray} (hs : okW s) : Wl tm (l ++ wordI c s) := by
  have key : ∀ k, k < (cuts s).length → Wl tm (l ++ pcIts c (pcsTo s (k + 1))) := by
    intro k
    induction k with
    | zero =>
      intro h
      have e : pcIts c (pcsTo s (0 + 1)) = [boxT (pieceAt s 0)] := by rw [pcsTo_succ]; rfl
      rw [e]
      exact hl _ (box_tb (piece_ok hs h))
    | succ k ih =>
      intro h
      have e : pcIts c (pcsTo s (k + 1 + 1)) = pcIts c (pcsTo s (k + 1)) ++ [penT c, boxT (pieceAt s (k + 1))] := by
        rw [pcsTo_succ, pcIts_snoc]
        simp
      rw [e, ← List.append_assoc]
      exact (ih (by omega)).snoc2 (.inr ⟨rfl, rfl, rfl⟩) (box_tb (piece_ok hs h)) (fun _ => piece_dash (by omega) h)
  have h1 := cuts_len s
  obtain ⟨n, hn⟩ : ∃ n, (cuts s).length = n + 1 := ⟨(cuts s).length - 1, by omega⟩
  have := key n (by omega)
  unfold wordI pcsL
  rwa [hn]
theorem begin_opn (kind ind : Int) : Opn tm (beginI kind ind) := by
  unfold beginI
  split
  · exact opn_em ⟨rfl, rfl, rfl, rfl⟩
  · split
    · have h1 : Wl tm ([] ++ [boxT ⟨#[42]⟩]) := opn_nil _ (box_tb ⟨by decide, by decide⟩)
      have h2 := h1.opn (x := tieT) ⟨rfl, rfl, .inr ⟨rfl, rfl⟩⟩
      exact h2
    · exact opn_nil
/-- A PART'S ITEMS ARE IN ORDER -/
theorem items_wl (kind ind c : Int) (ws : List ByteArray) (hw : ∀ s ∈ ws, okW s) : ∀ k, k < ws.length → Wl tm (itemsTo kind ind c ws (k + 1)) := by
  have one : ∀ (l : List It) (k : Nat), k < ws.length → Opn tm l → Wl tm (l ++ (if kind = 2 then [boxT (ws.getD k eb0)] else wordI c (ws.getD k eb0))) := fun l k hk hl => by
    have hs : okW (ws.getD k eb0) := by
      rw [List.getD_eq_getElem?_getD, List.getElem?_eq_getElem hk]
      exact hw _ (List.getElem_mem _)
    split
    · exact hl _ (box_tb hs)
    · exact hl.word c hs
  intro k
  induction k with
  | zero =>
    intro hk
    rw [itemsTo]
    have := one (beginI kind ind) 0 hk (begin_opn kind ind)
    simpa [itemsTo] using this
  | succ k ih =>
    intro hk
    have h1 := ih (by omega)
    rw [itemsTo, if_pos (by omega)]
    exact one _ _ hk (h1.opn ⟨rfl, rfl, .inl ⟨rfl, rfl⟩⟩)
theorem tx_text (l : List It) : txL l = textB l := rfl
end Go.Proofs.YtempicociampoaaDoor
namespace Go.Proofs.YtempicociampoaaDoor
open Go.RowKit Go.Shelf Go.Lib

theorem moved_small {d : Int} {s a : Sm} {n : Nat} (hn : n ≤ 602) (ha : a.bd n) (hs : s.bd 602) (h1 : -60000000 ≤ d) (h2 : d ≤ 10000) : -1000000000000000 ≤ moved d s a ∧ moved d s a ≤ 1000000000000000 := by
  obtain ⟨⟨s1, s2⟩, ⟨s3, s4⟩, ⟨s5, s6⟩⟩ := hs
  obtain ⟨⟨a1, a2⟩, ⟨a3, a4⟩, ⟨a5, a6⟩⟩ := ha
  have key : ∀ {e b all : Int}, -60000000 ≤ e → e ≤ 60000000 → 0 ≤ b → b ≤ 6020000 → -1000000000000000 ≤ spread e b all ∧ spread e b all ≤ 1000000000000000 := fun {e b all} e1 e2 e3 e4 => by
    have m1 : e * b ≤ 60000000 * b := Int.mul_le_mul_of_nonneg_right e2 e3
    have m2 : (-60000000) * b ≤ e * b := Int.mul_le_mul_of_nonneg_right e1 e3
    unfold spread
    split
    · omega
    · have h9 : ((e * b).tdiv all).natAbs ≤ (e * b).natAbs := by rw [Int.natAbs_tdiv]; exact Nat.div_le_self _ _
      generalize (e * b).tdiv all = q at *
      generalize e * b = p at *
      omega
  unfold moved
  split
  · exact key (by omega) (by omega) a3 (by omega)
  · have := key (e := min (-d) s.z) (b := a.z) (all := s.z) (by omega) (by omega) a5 (by omega)
    omega
theorem pcs_in {d : Int} {s : Sm} (hs : s.bd 602) (h1 : -60000000 ≤ d) (h2 : d ≤ 10000) : ∀ (l : List It) (a : Sm) (n : Nat), a.bd n → n + l.length ≤ 602 →
    ∀ p ∈ pcs d s a l, -1000000000000000000 ≤ p.1 ∧ p.1 ≤ 1000000000000000000 ∧ ∃ x ∈ l, p.2 = x.text
  | [], _, _, _, _, p, hp => by cases hp
  | x :: r, a, n, ha, hn, p, hp => by
    have hn' : n + 1 + r.length ≤ 602 := by rw [List.length_cons] at hn; omega
    have ih := pcs_in hs h1 h2 r (a.step x) (n + 1) (Sm.bd_step ha x) hn'
    have hm := moved_small (d := d) (s := s) (n := n) (by omega) ha hs h1 h2
    have ha2 := ha.1
    rw [pcs] at hp
    split at hp
    · rcases List.mem_cons.1 hp with rfl | hp
      · exact ⟨by dsimp only; omega, by dsimp only; omega, x, by simp, rfl⟩
      · obtain ⟨q1, q2, y, hy, e⟩ := ih p hp
        exact ⟨q1, q2, y, by simp [hy], e⟩
    · obtain ⟨q1, q2, y, hy, e⟩ := ih p hp
      exact ⟨q1, q2, y, by simp [hy], e⟩
theorem setL_in {l : List It} {n t wd : Int} {last : Bool} (h6 : l.length ≤ 600) (hx : ∀ x ∈ l, x.text.size ≤ 1000000) : pcB (setL l n t wd last) := by
  intro p hp
  unfold setL at hp
  split at hp
  · have hbd := lineSm_bd l (firstL l n) (upto t l.length)
    have hb2 : (lineSm l (firstL l n) (upto t l.length)).bd 602 := by obtain ⟨⟨a1, a2⟩, ⟨a3, a4⟩, ⟨a5, a6⟩⟩ := hbd; exact ⟨⟨a1, by omega⟩, ⟨a3, by omega⟩, ⟨a5, by omega⟩⟩
    have hd : -60000000 ≤ needOf wd last (lineSm l (firstL l n) (upto t l.length)) ∧ needOf wd last (lineSm l (firstL l n) (upto t l.length)) ≤ 10000 := by
      have hp := plain_bd wd
      have := hb2.1
      unfold needOf; split <;> omega
    generalize lineSm l (firstL l n) (upto t l.length) = S at *
    generalize needOf wd last S = D at *
    have hmem : ∀ x ∈ mid l (firstL l n) (upto t l.length), x ∈ l := fun x hx => by
      unfold mid at hx
      exact List.mem_of_mem_take (List.mem_of_mem_drop hx)
    have hml : (mid l (firstL l n) (upto t l.length)).length ≤ 600 := by unfold mid; simp; omega
    have hsm := smOf_bd (mid l (firstL l n) (upto t l.length))
    unfold allPcs at hp
    obtain ⟨m, hmm⟩ : ∃ m, mid l (firstL l n) (upto t l.length) = m := ⟨_, rfl⟩
    rw [hmm] at hmem hml hsm hp
    rcases List.mem_append.1 hp with hp | hp
    · obtain ⟨q1, q2, y, hy, e⟩ := pcs_in hb2 hd.1 hd.2 _ ⟨0, 0, 0⟩ 0 ⟨⟨by simp, by simp⟩, ⟨by simp, by simp⟩, ⟨by simp, by simp⟩⟩ (by omega) p hp
      rw [e]
      exact ⟨q1, q2, hx y (hmem y hy)⟩
    · split at hp
      · obtain rfl := List.mem_singleton.1 hp
        have hm := moved_small (d := D) (s := S) (a := smOf m) (n := m.length) (by omega) hsm hb2 hd.1 hd.2
        have := hsm.1
        exact ⟨by dsimp only; omega, by dsimp only; omega, by dsimp only; decide⟩
      · cases hp
  · cases hp
theorem ofL_in {kind a c d e : Int} {ws : List ByteArray} (hs : ∀ s ∈ ws, s.size ≤ 1000) : ∀ x ∈ ofL kind ws a c d e, pcB x.ps := by
  intro x hx
  unfold ofL at hx
  split at hx
  · obtain rfl := List.mem_singleton.1 hx
    intro p hp; cases hp
  · split at hx
    · cases hx
    · rw [linesL_eq] at hx
      obtain ⟨i, hi, rfl⟩ := List.mem_map.1 hx
      obtain ⟨t, -, -, -, h6⟩ := best_at (itemsOf kind e d ws) (cutI a 0 10000) (cutI c 0 10000) (List.mem_range.1 hi)
      refine setL_in h6 fun x hx => ?_
      unfold itemsOf at hx
      split at hx
      · cases hx
      · exact items_all (P := fun x => x.text.size ≤ 1000000) (fun s h => by show s.size ≤ 1000000; omega) (by show eb0.size ≤ 1000000; decide) (by show eb0.size ≤ 1000000; decide) (by show eb0.size ≤ 1000000; decide) (by show eb0.size ≤ 1000000; decide) hs _ x hx
/-- a part's lines come of a way of its items -/
theorem ofL_way {kind a c d e : Int} {ws : List ByteArray} (hk : 1 ≤ kind ∧ kind ≤ 3) (hw : ∀ s ∈ ws, okW s) (hne : ws ≠ []) (h6 : (itemsOf kind e d ws).length ≤ 600) :
    Wl tm (itemsOf kind e d ws) ∧ itemsOf kind e d ws = itemsTo kind e d ws ws.length ∧ ∃ all, Isw (itemsOf kind e d ws) (cutI a 0 10000) (cutI c 0 10000) all (placesL (itemsOf kind e d ws)) (-1) (itemsOf kind e d ws).length (bestS (itemsOf kind e d ws) (cutI a 0 10000) (cutI c 0 10000)) ∧
      (bestS (itemsOf kind e d ws) (cutI a 0 10000) (cutI c 0 10000)).br ≠ [] ∧ bestW (itemsOf kind e d ws) (cutI a 0 10000) (cutI c 0 10000) all (placesL (itemsOf kind e d ws)) = some (bestS (itemsOf kind e d ws) (cutI a 0 10000) (cutI c 0 10000)) ∧
      (all = true → bestW (itemsOf kind e d ws) (cutI a 0 10000) (cutI c 0 10000) false (placesL (itemsOf kind e d ws)) = none) := by
  have hio : itemsOf kind e d ws = itemsTo kind e d ws ws.length := by unfold itemsOf; rw [if_neg (by omega)]
  obtain ⟨n, hn⟩ : ∃ n, ws.length = n + 1 := ⟨ws.length - 1, by have := List.length_pos_iff.2 hne; omega⟩
  have hwl : Wl tm (itemsOf kind e d ws) := by rw [hio, hn]; exact items_wl kind e d ws hw n (by omega)
  refine ⟨hwl, hio, best_is _ _ h6 ?_⟩
  obtain ⟨h1, -⟩ := hwl.fst (n := -1) (.inl rfl)
  rw [h1]
  obtain ⟨x, hx, -⟩ := hwl.head
  have := (List.getElem?_eq_some_iff.1 hx).1
  omega
theorem ofL_lines {kind a c d e : Int} {ws : List ByteArray} (hk : 1 ≤ kind ∧ kind ≤ 3) (hne : ws ≠ []) : ofL kind ws a c d e = linesL (itemsOf kind e d ws) a (cutI a 0 10000) (cutI c 0 10000) kind (-1) true (bestS (itemsOf kind e d ws) (cutI a 0 10000) (cutI c 0 10000)).br := by
  unfold ofL; rw [if_neg (by omega), if_neg hne]
/-- the text of a part's lines is its words' -/
theorem ofL_text {kind a c d e : Int} {ws : List ByteArray} (hk : 1 ≤ kind ∧ kind ≤ 3) (hw : ∀ s ∈ ws, okW s) (hne : ws ≠ []) (h6 : (itemsOf kind e d ws).length ≤ 600) :
    linesT tw ((ofL kind ws a c d e).map Ln.ps) = (wantS kind ws ws.length).data.toList := by
  obtain ⟨hwl, hio, all, his, -⟩ := ofL_way (a := a) (c := c) hk hw hne h6
  rw [ofL_lines hk hne]
  have h9 := hwl.lines his.leg his.mem his.last a kind
  rw [show linesT tw = linesT tm from rfl, h9, hio, tx_text, items_text kind e d ws hk]
end Go.Proofs.YtempicociampoaaDoor
namespace Go.Proofs.YtempicociampoaaDoor
open Go.RowKit

theorem wk1 : pointsL (numbersL [110, 97, 116, 105, 111, 110]) = [2] := by decide +kernel
theorem wk6 : numbersL [97] = [] := by decide +kernel
end Go.Proofs.YtempicociampoaaDoor
namespace Go.Proofs.YtempicociampoaaDoor
open Go.RowKit Go.Shelf
attribute [local go_sem] Oper.semAt_some

def naB : ByteArray := ⟨#[110, 97, 116, 105, 111, 110]⟩
theorem cuts_na : cuts naB = [2, 6] := by
  unfold cuts
  rw [show pointsL (numbersL naB.data.toList) = [2] from wk1]; rfl
theorem cuts_a : cuts ⟨#[97]⟩ = [1] := by
  unfold cuts
  rw [show pointsL (numbersL (⟨#[97]⟩ : ByteArray).data.toList) = [] by rw [show numbersL (⟨#[97]⟩ : ByteArray).data.toList = [] from wk6]; rfl]; rfl
theorem word_na (c : Int) : wordI c naB = [boxT ⟨#[110, 97]⟩, penT c, boxT ⟨#[116, 105, 111, 110]⟩] := by
  unfold wordI pcsL pcsTo pcIts pieceAt
  rw [cuts_na]
  unfold cutAt
  rw [cuts_na]
  rfl
theorem word_a (c : Int) : wordI c ⟨#[97]⟩ = [boxT ⟨#[97]⟩] := by
  unfold wordI pcsL pcsTo pcIts pieceAt
  rw [cuts_a]
  unfold cutAt
  rw [cuts_a]
  rfl
theorem sl_texts (w : World) (l : List ByteArray) (hl : l.length ≤ maxLen) : Sl (w.alloc (.cells (l.flatMap encS).toArray 9)) 1 encS (.slice (some ⟨w.heap.size, 0, none⟩) l.length l.length) l := by
  refine sl_of_block (World.alloc_heap_new w _) ?_ (fun _ _ => rfl) (Nat.le_refl _) hl
  have : ∀ l : List ByteArray, (l.flatMap encS).length = l.length := by
    intro l
    induction l with
    | nil => rfl
    | cons x l ih => rw [List.flatMap_cons, List.length_append, ih]; simp [encS]; omega
  simp only [Nat.mul_one]
  rw [← this l, List.take_length]

end Go.Proofs.YtempicociampoaaDoor
namespace Go.Proofs.YtempicociampoaaDoor
open Go.RowKit

theorem items_two (c : Int) (a b : ByteArray) : itemsOf 1 0 c [a, b] = wordI c a ++ [spaceT] ++ wordI c b := by
  unfold itemsOf
  rw [if_neg (by decide)]
  simp [itemsTo, beginI]
end Go.Proofs.YtempicociampoaaDoor
namespace Go.Proofs.YtempicociampoaaDoor
open Go.RowKit Go.Shelf Go.Lib

theorem tm_na : tm ⟨#[110, 97]⟩ = 12 := by
  unfold tm
  rw [show sgn (ByteArray.mk #[110, 97]).data.toList = [110, 97] from sgn_of (by decide) (by decide)]; decide
theorem tm_tion : tm ⟨#[116, 105, 111, 110]⟩ = 19 := by
  unfold tm
  rw [show sgn (ByteArray.mk #[116, 105, 111, 110]).data.toList = [116, 105, 111, 110] from sgn_of (by decide) (by decide)]; decide
theorem tm_star : tm ⟨#[42]⟩ = 6 := by
  unfold tm
  rw [show sgn (ByteArray.mk #[42]).data.toList = [42] from sgn_of (by decide) (by decide)]; decide
theorem tm_a : tm ⟨#[97]⟩ = 6 := by
  unfold tm
  rw [show sgn (ByteArray.mk #[97]).data.toList = [97] from sgn_of (by decide) (by decide)]; decide
theorem its19a : itemsOf 1 0 50 [naB, naB] = [⟨1, 12, 0, 0, 0, ⟨#[110, 97]⟩⟩, ⟨3, 4, 0, 0, 50, eb0⟩, ⟨1, 19, 0, 0, 0, ⟨#[116, 105, 111, 110]⟩⟩, ⟨2, 4, 2, 1, 0, eb0⟩, ⟨1, 12, 0, 0, 0, ⟨#[110, 97]⟩⟩, ⟨3, 4, 0, 0, 50, eb0⟩, ⟨1, 19, 0, 0, 0, ⟨#[116, 105, 111, 110]⟩⟩] := by
  rw [items_two, word_na]
  unfold boxT
  rw [tm_na, tm_tion]; rfl
theorem its19b : itemsOf 3 0 50 [⟨#[97]⟩] = [⟨1, 6, 0, 0, 0, ⟨#[42]⟩⟩, ⟨2, 4, 0, 0, 0, eb0⟩, ⟨1, 6, 0, 0, 0, ⟨#[97]⟩⟩] := by
  show boxT ⟨#[42]⟩ :: tieT :: ([] ++ wordI 50 ⟨#[97]⟩) = _
  rw [word_a]
  unfold boxT
  rw [tm_star, tm_a]; rfl
set_option maxRecDepth 100000 in
theorem br19a : (bestS [⟨1, 12, 0, 0, 0, ⟨#[110, 97]⟩⟩, ⟨3, 4, 0, 0, 50, eb0⟩, ⟨1, 19, 0, 0, 0, ⟨#[116, 105, 111, 110]⟩⟩, ⟨2, 4, 2, 1, 0, eb0⟩, ⟨1, 12, 0, 0, 0, ⟨#[110, 97]⟩⟩, ⟨3, 4, 0, 0, 50, eb0⟩, ⟨1, 19, 0, 0, 0, ⟨#[116, 105, 111, 110]⟩⟩] 40 200).br.length = 2 := by kernel_rfl
set_option maxRecDepth 100000 in
theorem br19b : (bestS [⟨1, 6, 0, 0, 0, ⟨#[42]⟩⟩, ⟨2, 4, 0, 0, 0, eb0⟩, ⟨1, 6, 0, 0, 0, ⟨#[97]⟩⟩] 40 200).br.length = 1 := by kernel_rfl
end Go.Proofs.YtempicociampoaaDoor
