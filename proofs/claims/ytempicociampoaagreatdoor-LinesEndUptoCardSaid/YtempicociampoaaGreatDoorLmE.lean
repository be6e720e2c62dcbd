/- Plain laws of LinesEnd: where a part's lines end, where they stand apart. -/
import Derived.Test.YtempicociampoaaGreatDoorJ24
import Derived.Test.YtempicociampoaaGreatDoorJ12
namespace Go.Proofs.YtempicociampoaaGreatDoor
open Go.RowKit Go.Shelf Go.Lib

/-- are all lines of breaks such as may be? -/
def mayS (l : List It) (wd tol : Int) : Int → List Int → Bool
 | _, [] => true
 | n, b :: r => (liS l wd tol n b.toNat).may && mayS l wd tol b r
theorem may_at {l : List It} {wd tol : Int} : ∀ {br : List Int} {n : Int}, mayS l wd tol n br = true → ∀ i, i < br.length → (liS l wd tol (lastI n (br.take i)) (br.getD i 0).toNat).may = true
 | [], _, _, i, h => by simp at h
 | b :: r, n, h, 0, _ => by
  have : (liS l wd tol n b.toNat).may = true := by
   rw [mayS, Bool.and_eq_true] at h; exact h.1
  simpa [lastI] using this
 | b :: r, n, h, i + 1, hi => by
  rw [mayS, Bool.and_eq_true] at h
  have := may_at h.2 i (by simpa using hi)
  simpa [lastI] using this
theorem may_over {l : List It} {wd tol n : Int} {t : Nat} (h : (liS l wd tol n t).may = true) : (liS l wd tol n t).over = false := by
 unfold liS at h ⊢
 split
 ·rfl
 ·rename_i h9; rw [if_neg h9] at h; cases h
theorem pcs_le (d : Int) (s : Sm) : ∀ (m : List It) (a : Sm), (pcs d s a m).length ≤ m.length
 | [], _ => Nat.le_refl _
 | x :: m, a => by
  have := pcs_le d s m (a.step x)
  rw [pcs]
  split <;> simp <;> omega
/-- a part's items begin with a Box -/
theorem items_box {kind e d : Int} {ws : List ByteArray} (hk : 1 ≤ kind ∧ kind ≤ 3) (hw : ∀ s ∈ ws, s.size ≠ 0) (hne : ws ≠ []) : firstL (itemsOf kind e d ws) (-1) < (itemsOf kind e d ws).length := by
 have hio : itemsOf kind e d ws = itemsTo kind e d ws ws.length := by unfold itemsOf; rw [if_neg (by omega)]
 obtain ⟨n, hn⟩ : ∃ n, ws.length = n + 1 := ⟨ws.length - 1, by have := List.length_pos_iff.2 hne; omega⟩
 obtain ⟨z, r, hi, hz, -⟩ := items_tl kind e d ws hw n (by omega)
 rw [hn, hi] at hio
 have hh : ∃ x, (itemsOf kind e d ws)[0]? = some x ∧ x.kind = 1 := by
  rw [hio]
  unfold beginI
  split
  ·exact ⟨_, rfl, rfl⟩
  ·split
   ·exact ⟨_, rfl, rfl⟩
   ·exact ⟨z, rfl, hz.1⟩
 obtain ⟨y, hy, hyk⟩ := hh
 obtain ⟨h1, h2⟩ := List.getElem?_eq_some_iff.1 hy
 have e0 : from1 (-1) (itemsOf kind e d ws).length = 0 := by unfold from1; omega
 unfold firstL
 rw [e0, fst_hit h1 (by rw [h2]; exact hyk)]
 exact h1
/-- do pieces stand apart, ahead of the k-th? -/
noncomputable def apS (kind : Int) (i : Nat) (ps : List (Int × ByteArray)) (k : Nat) : Bool := (List.range k).any fun j => decide (1 ≤ j) && (decide (1 < j) || decide (kind ≠ 3) || decide (0 < i)) && gapK tm ps j
theorem apS_succ (kind : Int) (i : Nat) (ps : List (Int × ByteArray)) (k : Nat) : apS kind i ps (k + 1) = (apS kind i ps k || (decide (1 ≤ k) && (decide (1 < k) || decide (kind ≠ 3) || decide (0 < i)) && gapK tm ps k)) := by
 unfold apS; rw [List.range_succ, List.any_append]; simp
theorem apS_one (kind : Int) (i : Nat) (ps : List (Int × ByteArray)) : apS kind i ps 1 = false := by unfold apS; rw [show List.range 1 = [0] from rfl]; simp
theorem apS_yes {kind : Int} {i : Nat} {ps : List (Int × ByteArray)} {k : Nat} (h : apS kind i ps k = true) (hk : k ≤ ps.length) : ∃ j, 1 ≤ j ∧ j < ps.length ∧ (1 < j ∨ kind ≠ 3 ∨ 0 < i) ∧ gapK tm ps j = true := by
 unfold apS at h
 obtain ⟨j, hj, h9⟩ := List.any_eq_true.1 h
 have hj := List.mem_range.1 hj
 simp only [Bool.and_eq_true, Bool.or_eq_true, decide_eq_true_eq] at h9
 exact ⟨j, h9.1.1, by omega, by rcases h9.1.2 with (h | h) | h <;> simp [h], h9.2⟩
theorem gapK_at {ps : List (Int × ByteArray)} {k : Nat} {x : Int × ByteArray} (h0 : 0 < k) (h : ps[k]? = some x) : gapK tm ps k = (endW tm (ps.take k) != x.1) := by
 have hg : ps.getD k pc0 = x := by rw [List.getD_eq_getElem?_getD, h]; rfl
 unfold gapK
 rw [hg, decide_eq_true h0, Bool.true_and]
 rfl
/-- a glue that does not stretch is a point's -/
theorem tie_at {kind e d : Int} {ws : List ByteArray} (hk : 1 ≤ kind ∧ kind ≤ 3) (hw : ∀ s ∈ ws, s.size ≠ 0) (hne : ws ≠ []) : ∀ (j : Nat) (x : It), (itemsOf kind e d ws)[j]? = some x → x.kind = 2 → plain x.y = 0 → kind = 3 ∧ j = 1 := by
 have hio : itemsOf kind e d ws = itemsTo kind e d ws ws.length := by unfold itemsOf; rw [if_neg (by omega)]
 obtain ⟨n, hn⟩ : ∃ n, ws.length = n + 1 := ⟨ws.length - 1, by have := List.length_pos_iff.2 hne; omega⟩
 obtain ⟨z, r, hi, hz, hr⟩ := items_tl kind e d ws hw n (by omega)
 rw [hn, hi] at hio
 intro j x hx h2 hy
 rw [hio] at hx
 have hno : ∀ i : Nat, (z :: r)[i]? = some x → False := fun i h => by
  have h9 := hr.glue hz x (List.mem_of_getElem? h) h2
  rw [h9] at hy
  exact absurd hy (by decide)
 unfold beginI at hx
 by_cases h1 : kind = 1 ∧ 0 < e
 ·rw [if_pos h1] at hx
  match j, hx with
  | 0, hx => cases hx; exact absurd h2 (by show ¬ (1 : Int) = 2; decide)
  | j + 1, hx => exact (hno j hx).elim
 ·rw [if_neg h1] at hx
  by_cases h3 : kind = 3
  ·rw [if_pos h3] at hx
   match j, hx with
   | 0, hx => cases hx; exact absurd h2 (by show ¬ (1 : Int) = 2; decide)
   | 1, _ => exact ⟨h3, rfl⟩
   | j + 2, hx => exact (hno j hx).elim
  ·rw [if_neg h3] at hx
   exact (hno j hx).elim
/-- where pieces of a line stand apart, it can be stretched -/
theorem Wl.apart {l : List It} (hl : Wl tm l) {kind : Int} (htie : ∀ (j : Nat) (x : It), l[j]? = some x → x.kind = 2 → plain x.y = 0 → kind = 3 ∧ j = 1) {f t k : Nat} (hf : stp l f) (hft : f < t) (h1 : t ≤ l.length) (h2 : ∀ x, l[t]? = some x → x.kind ≠ 1) {d : Int}
  (hk : (if kind = 3 ∧ f = 0 then 1 else 0) < k) (hkl : k < (allPcs d (lineSm l f t) l f t).length) (hg : gapK tm (allPcs d (lineSm l f t) l f t) k = true) : (lineSm l f t).y ≠ 0 := by
 intro h0
 have hsb := lineSm_bd l f t
 have es : (lineSm l f t).y = (smOf (mid l f t)).y := by unfold lineSm; rw [if_pos hft]
 rw [es] at h0
 have hsp := no_space h0
 have hgg := hl.gaps hf hft h1 h2 (d := d) (s := lineSm l f t) (c := if kind = 3 ∧ f = 0 then 1 else 0) hsb.2.1.1 hsb.2.2.1 (fun m' x r hm hx2 => by
  have hxm : x ∈ mid l f t := by rw [hm]; simp
  have hat : l[f + m'.length]? = some x := by
   have h9 : (mid l f t)[m'.length]? = some x := by rw [hm, List.getElem?_append_right (Nat.le_refl _), Nat.sub_self]; rfl
   unfold mid at h9
   rw [List.getElem?_drop, List.getElem?_take] at h9
   split at h9
   ·exact h9
   ·cases h9
  obtain ⟨k3, hj⟩ := htie _ x hat hx2 (hsp x hxm)
  have hle := pcs_le d (lineSm l f t) m' ⟨0, 0, 0⟩
  unfold pcsOf
  split
  ·omega
  ·rename_i h9
   have : f ≠ 0 := fun h => h9 ⟨k3, h⟩
   omega) k hk hkl
 rw [hgg] at hg; cases hg
/-- where a part's lines end -/
theorem ends_at {kind a c d e : Int} {ws : List ByteArray} (hk : 1 ≤ kind ∧ kind ≤ 3) (hw : ∀ s ∈ ws, s.size ≠ 0) (hne : ws ≠ []) (ha : 40 ≤ a ∧ a ≤ 400) (h6 : (itemsOf kind e d ws).length ≤ 600) (hwi : ∀ x ∈ itemsOf kind e d ws, x.w ≤ 10000) :
  (ofL kind ws a c d e).length = (bestS (itemsOf kind e d ws) (cutI a 0 10000) (cutI c 0 10000)).br.length ∧ ∀ i, i < (ofL kind ws a c d e).length → ∃ x, (ofL kind ws a c d e)[i]? = some x ∧ x.kind = kind ∧ x.last = decide (i + 1 = (ofL kind ws a c d e).length) ∧
   (x.over = true → mayS (itemsOf kind e d ws) (cutI a 0 10000) (cutI c 0 10000) (-1) (bestS (itemsOf kind e d ws) (cutI a 0 10000) (cutI c 0 10000)).br = false ∧ a < endW tm x.ps) ∧ (x.over = false → endW tm x.ps ≤ a) ∧
   (x.over = false → x.last = false → (∃ k, 1 ≤ k ∧ k < x.ps.length ∧ (1 < k ∨ kind ≠ 3 ∨ 0 < i) ∧ gapK tm x.ps k = true) → endW tm x.ps = a) := by
 have hio : itemsOf kind e d ws = itemsTo kind e d ws ws.length := by unfold itemsOf; rw [if_neg (by omega)]
 obtain ⟨n, hn⟩ : ∃ n, ws.length = n + 1 := ⟨ws.length - 1, by have := List.length_pos_iff.2 hne; omega⟩
 have hwl : Wl tm (itemsOf kind e d ws) := by
  have := items_wb kind e d ws hw n (by omega)
  rw [← hn, ← hio] at this
  exact this hwi
 have hpw : ∀ x ∈ itemsOf kind e d ws, x.kind = 3 → x.w = 4 := by rw [hio]; exact items_penw kind e d ws _
 have htie := @tie_at kind e d ws hk hw hne
 have hl := ofL_len (a := a) (c := c) (d := d) (e := e) hk hne
 have hat := @ofL_at kind a c d e ws hk hne
 rw [hl] at hat ⊢
 refine ⟨rfl, fun i hib => ⟨_, hat hib, rfl, rfl, ?_⟩⟩
 clear hat hl
 have hwd : cutI a 0 10000 = a := by unfold cutI; omega
 rw [hwd] at hib ⊢
 generalize cutI c 0 10000 = tol at *
 generalize itemsOf kind e d ws = l at *
 have hlen : firstL l (-1) < l.length := by
  obtain ⟨h1, -⟩ := hwl.fst (n := -1) (.inl rfl)
  obtain ⟨y, hy, -⟩ := hwl.head
  have := (List.getElem?_eq_some_iff.1 hy).1
  rw [h1]; omega
 obtain ⟨all, his, hbn, -⟩ := best_is (l := l) a tol h6 hlen
 have hleg := his.leg
 have hmem := his.mem
 have hlas := his.last
 clear his
 generalize (bestS l a tol).br = br at *
 obtain ⟨t, ht, t1, t2, t3⟩ := way_brk hleg hmem hib
 have hfr := way_from hleg hmem hib
 have hmay := fun h => may_over (may_at (l := l) (wd := a) (tol := tol) (br := br) (n := -1) h i hib)
 unfold lineAt
 dsimp only
 rw [ht] at hmay ⊢
 have e1 : ((t : Int)).toNat = t := by omega
 rw [e1] at hmay ⊢
 -- the last line ends at the end
 have hla : decide (i + 1 = br.length) = decide (t = l.length) := by
  rw [decide_eq_decide]
  constructor
  ·intro h
   have h8 := lastI_take (-1) br i hib
   rw [List.take_of_length_le (by omega), hlas, ht] at h8
   omega
  ·intro h
   by_cases h9 : i + 1 < br.length
   ·exfalso
    obtain ⟨t', -, h1', -, h3'⟩ := way_brk hleg hmem h9
    rw [lastI_take _ br i hib, ht, h] at h3'
    have : firstL l (l.length : Int) = l.length := by
     unfold firstL
     exact fst_end (by unfold from1; omega)
    omega
   ·omega
 generalize hn' : lastI (-1) (br.take i) = m at *
 obtain ⟨g1, g2, g3, -⟩ := hwl.end_law tm_dash hpw h6 hfr t3 t1 t2 (width := a) (wd := a) (tol := tol) ⟨by omega, by omega⟩ (plain_eq (by omega) (by omega)) hla
 refine ⟨fun h => ⟨?_, g1 h⟩, g2, fun h hl0 hgap => ?_⟩
 ·cases hm : mayS l a tol (-1) br with
  | false => rfl
  | true => rw [hmay hm] at h; cases h
 ·have htl : t < l.length := by
   have : ¬ t = l.length := by rw [hla] at hl0; simpa using hl0
   omega
  refine g3 h htl ?_
  obtain ⟨k, k1, k2, k3, k4⟩ := hgap
  obtain ⟨f1, f2⟩ := hwl.fst hfr
  have hup : upto (t : Int) l.length = t := by unfold upto; omega
  have hs : setL l m t a (decide (i + 1 = br.length)) = allPcs (needOf a (decide (i + 1 = br.length)) (lineSm l (firstL l m) t)) (lineSm l (firstL l m) t) l (firstL l m) t := by
   unfold setL; rw [hup, if_pos t3]
  rw [hs] at k2 k4
  refine hwl.apart htie (f1 ▸ f2) t3 t1 t2 ?_ k2 k4
  split
  ·rename_i h9
   obtain ⟨q1, q2⟩ := h9
   rcases k3 with k3 | k3 | k3
   ·exact k3
   ·exact absurd q1 k3
   ·exfalso
    rcases hfr with h8 | ⟨b, h8, -⟩
    ·obtain ⟨j, rfl⟩ : ∃ j, i = j + 1 := ⟨i - 1, by omega⟩
     obtain ⟨u, hu, -⟩ := way_brk hleg hmem (show j < br.length by omega)
     rw [lastI_take _ br j (by omega), hu] at hn'
     omega
    ·rw [f1, h8] at q2
     omega
  ·omega
end Go.Proofs.YtempicociampoaaGreatDoor
