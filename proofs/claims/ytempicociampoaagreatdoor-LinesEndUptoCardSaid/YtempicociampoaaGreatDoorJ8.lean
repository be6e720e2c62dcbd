/- Owned rows: what a write beside them leaves; append where a region draws; two results. Plain laws of lines: the text of a way's lines is the text of the items. -/
import Derived.Test.YtempicociampoaaGreatDoorJ5
import Derived.Test.YtempicociampoaaGreatDoorJ6
import Derived.Test.YtempicociampoaaGreatDoorJ7
namespace Go.Proofs.YtempicociampoaaGreatDoor
open Go.RowKit Go.Shelf Go.Lib

section
variable {P : Program}
theorem wp_append_slG {α : Type} {w : World} {o : Oper} {a : Act} {K : Act → World → Prop} {Q : Exit → Act → World → Prop}
  (s x : Operand) (t : TypeId) (hop : o.op = Op.call { callee := Callee.builtin Builtin.append, args := #[s, x], argTypes := #[t, t] })
  (base : Nat) (e : TypeId) (i : TypeInfo) (z : Value) (size bytes : Nat) (h1 : P.underlying t = some (.slice e)) (h2 : P.info? e = some i) (h3 : i.zero = some z) (h4 : i.size = size) (h5 : i.bytes = bytes) (h6 : z.cells.size = size) (h7 : 0 < size)
  (v : Value) (k : Nat) (xs : List Value) (hs : a.eval s = v) (hown : w.ownsRow base e size v k xs)
  (enc : α → List Value) (vx : Value) (l : List α) (hx : a.eval x = vx) (hsl : Sl w size enc vx l) (he : ∀ x ∈ l, (enc x).length = size ∧ ∀ u ∈ enc x, u.oneCell' = true)
  (b1 : k + l.length ≤ maxLen) (b2 : (k + l.length) * bytes ≤ 140737488355328) (b3 : base ≤ w.heap.size)
  (hK : ∀ v' w', w'.ownsRow base e size v' (k + l.length) (xs ++ l.flatMap enc) → w.grownBy w' v.ownBlock → (v' = .slice none 0 0 ↔ v = .slice none 0 0 ∧ l = []) → K (a.put o.dst v') w') :
  o.wp P a w K Q := by
 obtain ⟨v', w', hrun, r1, r2, r3⟩ := run_append_sl (P := P) w base t o.type e i z size bytes h1 h2 h3 h4 h5 h6 h7 v k xs hown enc vx l hsl he b1 b2 b3
 unfold Oper.wp
 simp [execOp, hop, resolve, invoke, builtin, hs, hx, hrun, Result.andThen]
 exact hK v' w' r1 r2 r3
end
theorem own_mono {w : World} {base base' : Nat} {e : TypeId} {size : Nat} {v : Value} {n : Nat} {xs : List Value} (h : w.ownsRow base e size v n xs) (hb : base' ≤ base) : w.ownsRow base' e size v n xs := by
 obtain ⟨h1, h2⟩ := h
 refine ⟨h1, h2.imp id ?_⟩
 rintro ⟨g, cap, cur, hv, hg, r⟩
 exact ⟨g, cap, cur, hv, by omega, r⟩
theorem own_lt2 {W : World} {base : Nat} {e : TypeId} {size : Nat} {v : Value} {n : Nat} {xs : List Value} (h : W.ownsRow base e size v n xs) {j : Nat} (hj : v.ownBlock = some j) : j < W.heap.size := by
 rcases h.2 with ⟨rfl, _⟩ | ⟨g, cap, cur, rfl, hg, hh, _⟩
 ·simp [Value.ownBlock] at hj
 ·simp [Value.ownBlock] at hj; subst hj; exact (Array.getElem?_eq_some_iff.1 hh).1
theorem own_base2 {W : World} {base : Nat} {e : TypeId} {size : Nat} {v : Value} {n : Nat} {xs : List Value} (h : W.ownsRow base e size v n xs) {j : Nat} (hj : v.ownBlock = some j) : base ≤ j := by
 rcases h.2 with ⟨rfl, _⟩ | ⟨g, cap, cur, rfl, hg, _⟩
 ·simp [Value.ownBlock] at hj
 ·simp [Value.ownBlock] at hj; omega
theorem own_ty2 {W : World} {base : Nat} {e : TypeId} {size : Nat} {v : Value} {n : Nat} {xs : List Value} (h : W.ownsRow base e size v n xs) {b : Nat} {cs : Array Value} {t : TypeId} {fr : Nat × Nat} (hb : W.heap[b]? = some (.cells cs t fr)) (ht : t ≠ e) : v.ownBlock ≠ some b := fun hj => by
 rcases h.2 with ⟨rfl, _⟩ | ⟨g, cap, cur, rfl, hg, hh, _⟩
 ·simp [Value.ownBlock] at hj
 ·simp [Value.ownBlock] at hj; subst hj; rw [hb] at hh; cases hh; exact ht rfl
/-- a write to another block leaves an owned row -/
theorem upd_own2 {W W' : World} {b : Nat} {cs' : Array Value} {t e : TypeId} {base size n : Nat} {v : Value} {xs : List Value} (u : Upd b cs' t W W') (hb : v.ownBlock ≠ some b) (h : W.ownsRow base e size v n xs) : W'.ownsRow base e size v n xs := by
 obtain ⟨h0, h1⟩ := h
 refine ⟨h0, ?_⟩
 rcases h1 with h1 | ⟨g, cap, cur, rfl, hg, hh, r⟩
 ·exact .inl h1
 ·exact .inr ⟨g, cap, cur, rfl, hg, (u.off g fun e9 => hb (by simp [Value.ownBlock, e9])).trans hh, r⟩
theorem sl_i1 {W : World} {b : Nat} {t : Int} {ty : TypeId} {fr : Nat × Nat} (h : W.heap[b]? = some (.cells #[.int .i64 t] ty fr)) : Sl W 1 encI (.slice (some ⟨b, 0, none⟩) 1 1) [t] := by
 refine Sl.mk (l := [t]) (cap := 1) (by simp) (by decide) fun i x hx => ?_
 match i, hx with
 | 0, hx => obtain rfl := Option.some.inj hx; exact fun j v hj => by match j, hj with | 0, hj => obtain rfl := Option.some.inj hj; exact cell_blk h rfl
theorem results_rt2 {P : Program} {fn : Func} {p q : Tmp} {t1 : TypeId} (h : fn.results = #[.cell p t1, .tmp q]) (tmps : Array Value) (w : World) (g1 : Nat) (t : TypeId) (cs : Array Value) (v2 : Value) (d1 : TypeDesc)
  (e1 : tmps.getD p undef = .pointer (some ⟨g1, 0, none⟩)) (e2 : tmps.getD q undef = v2) (h1 : w.heap[g1]? = some (.cells cs t (0, 0)))
  (hu1 : P.underlying t1 = some d1) (hd1 : TypeDesc.isRow d1 = true) (hi : (P.info? t1).map (·.size) = some cs.size) :
  (results fn tmps).run P w = .ok (.tuple #[.agg cs, v2]) w := by
 have e1' : tmps[p]?.getD undef = .pointer (some ⟨g1, 0, none⟩) := by simpa using e1
 have e2' : tmps[q]?.getD undef = v2 := by simpa using e2
 have hl := run_loadVar_row (P := P) w g1 t t1 cs (0, 0) d1 h1 hu1 (by cases d1 <;> first | rfl | cases hd1) hi
 simp [results, h, e1', e2', asAddr, hl]
/-- a row and a value are answered -/
theorem outRowT2 {P : Program} {fn : Func} {ty t : TypeId} {p q : Tmp} {n₀ : Nat} {W : World} {a : Act} {R : Ending → World → Prop} {cs : Array Value} {v2 : Value} (hf : fn.results = #[.cell p ty, .tmp q])
  (h2 : W.heap[n₀]? = some (.cells cs t (0, 0))) (e1 : a.tmps.getD p undef = .pointer (some ⟨n₀, 0, none⟩)) (e2 : a.tmps.getD q undef = v2) (hd : a.defers = [])
  (hk : (P.underlying ty).map TypeDesc.isRow = some true) (hi : (P.info? ty).map (·.size) = some cs.size) (hR : R (.returned (.tuple #[.agg cs, v2])) W) : bodyPost P fn R .ret a W := by
 obtain ⟨d, hu, hr⟩ := Option.map_eq_some_iff.1 hk
 exact bodyPost_ret (results_rt2 hf _ _ n₀ t cs v2 d e1 e2 h2 hu hr hi) hd hR
end Go.Proofs.YtempicociampoaaGreatDoor
namespace Go.Proofs.YtempicociampoaaGreatDoor
open Go.RowKit

section
variable {tw : ByteArray → Int}
/-- items of a part: what is no Box stands between Boxes of text; a Box of nothing stands first alone; behind a Pen stands no hyphen -/
structure Wl (tw : ByteArray → Int) (l : List It) : Prop where
 good : ∀ x ∈ l, tb tw x ∨ emB x ∨ glW x ∨ peX x
 head : ∃ x, l[0]? = some x ∧ x.kind = 1
 emp : ∀ (i : Nat) (x : It), l[i]? = some x → emB x → i = 0
 near : ∀ (i : Nat) (x : It), l[i]? = some x → x.kind ≠ 1 → 0 < i ∧ (∃ y, l[i - 1]? = some y ∧ tb tw y) ∧ ∃ z, l[i + 1]? = some z ∧ tb tw z ∧ (x.kind = 3 → z.text.data.toList ≠ [45])
 last : ∃ x, l[l.length - 1]? = some x ∧ tb tw x
 alt : ∀ (i : Nat) (x y : It), l[i]? = some x → l[i + 1]? = some y → tb tw x → y.kind ≠ 1
theorem mid_snoc {l : List It} {f j : Nat} {x : It} (h : f ≤ j) (hx : l[j]? = some x) : mid l f (j + 1) = mid l f j ++ [x] := by
 obtain ⟨h1, h2⟩ := List.getElem?_eq_some_iff.1 hx
 rw [mid_succ h h1, h2]
/-- a line's items begin with a Box -/
def stp (l : List It) (f : Nat) : Prop := f = 0 ∨ ∃ x, l[f - 1]? = some x ∧ 0 < f ∧ x.kind ≠ 1
theorem Wl.begin {l : List It} (hl : Wl tw l) {f : Nat} (hf : stp l f) : ∃ x, l[f]? = some x ∧ x.kind = 1 := by
 rcases hf with rfl | ⟨x, hx, h0, hk⟩
 ·exact hl.head
 ·obtain ⟨-, -, z, hz, hb, -⟩ := hl.near (f - 1) x hx hk
  rw [show f - 1 + 1 = f by omega] at hz
  exact ⟨z, hz, hb.1⟩
theorem Wl.lw {l : List It} (hl : Wl tw l) {f : Nat} (hf : stp l f) : ∀ j, f ≤ j → ∀ x, l[j]? = some x → (tb tw x → Lw tw (mid l f (j + 1)) (some false)) ∧ (emB x → Lw tw (mid l f (j + 1)) none) ∧ (glW x → Lw tw (mid l f (j + 1)) (some true)) ∧ (peX x → Lw tw (mid l f (j + 1)) (some false)) ∧ ∃ st, Lw tw (mid l f (j + 1)) st := by
 intro j
 induction j with
 | zero =>
  intro hfj x hx
  obtain rfl : f = 0 := by omega
  obtain ⟨y, hy, hk⟩ := hl.begin hf
  obtain rfl : x = y := Option.some.inj (hx.symm.trans hy)
  have e : mid l 0 (0 + 1) = [] ++ [x] := by rw [mid_snoc (Nat.le_refl _) hx, mid_self]
  have hb : tb tw x → Lw tw (mid l 0 (0 + 1)) (some false) := fun h => by rw [e]; exact .box .nil h
  have he : emB x → Lw tw (mid l 0 (0 + 1)) none := fun h => by rw [e]; exact .emp .nil h
  refine ⟨hb, he, fun h => absurd h.1 (by omega), fun h => absurd h.1 (by omega), ?_⟩
  rcases hl.good x (List.mem_of_getElem? hx) with h | h | h | h
  ·exact ⟨_, hb h⟩
  ·exact ⟨_, he h⟩
  ·exact absurd h.1 (by omega)
  ·exact absurd h.1 (by omega)
 | succ j ih =>
  intro hfj x hx
  have e := mid_snoc hfj hx
  by_cases hjf : f = j + 1
  ·subst hjf
   obtain ⟨y, hy, hk⟩ := hl.begin hf
   obtain rfl : x = y := Option.some.inj (hx.symm.trans hy)
   rw [mid_self] at e
   have hb : tb tw x → Lw tw (mid l (j + 1) (j + 1 + 1)) (some false) := fun h => by rw [e]; exact .box .nil h
   have he : emB x → Lw tw (mid l (j + 1) (j + 1 + 1)) none := fun h => by rw [e]; exact .emp .nil h
   refine ⟨hb, he, fun h => absurd h.1 (by omega), fun h => absurd h.1 (by omega), ?_⟩
   rcases hl.good x (List.mem_of_getElem? hx) with h | h | h | h
   ·exact ⟨_, hb h⟩
   ·exact ⟨_, he h⟩
   ·exact absurd h.1 (by omega)
   ·exact absurd h.1 (by omega)
  ·have hj : j < l.length := by have := (List.getElem?_eq_some_iff.1 hx).1; omega
   obtain ⟨i1, i2, i3, i4, st, i5⟩ := ih (by omega) l[j] (List.getElem?_eq_getElem hj)
   have hb : tb tw x → Lw tw (mid l f (j + 1 + 1)) (some false) := fun h => by rw [e]; exact .box i5 h
   have hprev : x.kind ≠ 1 → tb tw l[j] := fun hk => by
    obtain ⟨-, ⟨y, hy, hyb⟩, -⟩ := hl.near (j + 1) x hx hk
    rw [show j + 1 - 1 = j by omega, List.getElem?_eq_getElem hj] at hy
    rwa [Option.some.inj hy]
   have hg : glW x → Lw tw (mid l f (j + 1 + 1)) (some true) := fun h => by rw [e]; exact .glue (i1 (hprev (by have := h.1; omega))) h
   have hp : peX x → Lw tw (mid l f (j + 1 + 1)) (some false) := fun h => by rw [e]; exact .pen (i1 (hprev (by have := h.1; omega))) h
   have he : emB x → Lw tw (mid l f (j + 1 + 1)) none := fun h => absurd (hl.emp _ x hx h) (by omega)
   refine ⟨hb, he, hg, hp, ?_⟩
   rcases hl.good x (List.mem_of_getElem? hx) with h | h | h | h
   ·exact ⟨_, hb h⟩
   ·exact ⟨_, he h⟩
   ·exact ⟨_, hg h⟩
   ·exact ⟨_, hp h⟩
/-- the last item ahead of a break is a Box of text -/
theorem Wl.ahead {l : List It} (hl : Wl tw l) {t : Nat} (h0 : 0 < t) (h1 : t ≤ l.length) (h2 : ∀ x, l[t]? = some x → x.kind ≠ 1) : ∃ x, l[t - 1]? = some x ∧ tb tw x := by
 by_cases h : t < l.length
 ·exact (hl.near t l[t] (List.getElem?_eq_getElem h) (h2 _ (List.getElem?_eq_getElem h))).2.1
 ·obtain rfl : t = l.length := by omega
  exact hl.last
/-- a line that does not end at a Pen ends with no hyphen that touches -/
theorem Wl.whole {l : List It} (hl : Wl tw l) {f t : Nat} (hf : stp l f) (hft : f < t) (h1 : t ≤ l.length) (h2 : ∀ x, l[t]? = some x → x.kind ≠ 1) {d : Int} {s : Sm} (hy : 0 ≤ s.y) (hz : 0 ≤ s.z) : brokenS tw (pcsOf d s (mid l f t)) = false := by
 obtain ⟨x, hx, hxb⟩ := hl.ahead (by omega) h1 h2
 have e := mid_snoc (show f ≤ t - 1 by omega) hx
 rw [show t - 1 + 1 = t by omega] at e
 have e1 := pcsOf_hit d s (mid l f (t - 1)) x hxb.1 hxb.2.1
 rw [e, e1]
 have hn : (pcsOf d s (mid l f (t - 1)) ++ [((smOf (mid l f (t - 1))).w + moved d s (smOf (mid l f (t - 1))), x.text)]).length - 1 = (pcsOf d s (mid l f (t - 1))).length := by simp
 unfold brokenS
 rw [hn]
 by_cases hp : 1 < (pcsOf d s (mid l f (t - 1)) ++ [((smOf (mid l f (t - 1))).w + moved d s (smOf (mid l f (t - 1))), x.text)]).length
 ·have hps : pcsOf d s (mid l f (t - 1)) ≠ [] := by intro h; rw [h] at hp; simp at hp
  have hgd : (pcsOf d s (mid l f (t - 1)) ++ [((smOf (mid l f (t - 1))).w + moved d s (smOf (mid l f (t - 1))), x.text)]).getD (pcsOf d s (mid l f (t - 1))).length pc0 = ((smOf (mid l f (t - 1))).w + moved d s (smOf (mid l f (t - 1))), x.text) := by
   rw [List.getD_eq_getElem?_getD, List.getElem?_append_right (Nat.le_refl _), Nat.sub_self]; rfl
  rw [hgd, List.take_left]
  by_cases h45 : x.text.data.toList = [45]
  ·have hne : endW tw (pcsOf d s (mid l f (t - 1))) ≠ (smOf (mid l f (t - 1))).w + moved d s (smOf (mid l f (t - 1))) := by
    by_cases hft2 : f = t - 1
    ·rw [← hft2, mid_self] at hps; exact absurd rfl hps
    ·have hj : t - 2 < l.length := by omega
     have hw := hl.lw hf (t - 2) (by omega) l[t - 2] (List.getElem?_eq_getElem hj)
     rw [show t - 2 + 1 = t - 1 by omega] at hw
     rcases hl.good _ (List.getElem_mem hj) with h | h | h | h
     ·refine absurd hxb.1 (hl.alt (t - 2) _ x (List.getElem?_eq_getElem hj) ?_ h)
      rw [show t - 2 + 1 = t - 1 by omega]; exact hx
     ·have := (hw.2.1 h).text (d := d) hy hz
      exact absurd this.1 hps
     ·have := (hw.2.2.1 h).text (d := d) hy hz
      intro h9
      have h8 := this.2.1
      unfold cur at h8
      omega
     ·obtain ⟨-, -, z, hz', -, hz3⟩ := hl.near (t - 2) _ (List.getElem?_eq_getElem hj) (by have := h.1; omega)
      rw [show t - 2 + 1 = t - 1 by omega, hx] at hz'
      obtain rfl := Option.some.inj hz'
      exact absurd h45 (hz3 h.1)
   rw [decide_eq_false hne, Bool.and_false, Bool.and_false]
  ·rw [decide_eq_false h45, Bool.false_and, Bool.and_false]
 ·rw [decide_eq_false hp, Bool.false_and]
theorem lineTo_init (ps : List (Int × ByteArray)) (p : Int × ByteArray) : lineTo tw (ps ++ [p]) ((ps ++ [p]).length - 1) = lineT tw ps := by
 rw [List.length_append, List.length_singleton, Nat.add_sub_cancel]
 have h9 := lineTo_take (tw := tw) (ps ++ [p]) ps.length ps.length (Nat.le_refl _)
 rw [List.take_left] at h9
 exact h9.symm
/-- what a line lays in the text: its items' text, with what it was broken at -/
theorem Wl.out {l : List It} (hl : Wl tw l) {f t : Nat} (hf : stp l f) (hft : f < t) (h1 : t < l.length) (h2 : ∀ x, l[t]? = some x → x.kind ≠ 1) {d : Int} {s : Sm} (hy : 0 ≤ s.y) (hz : 0 ≤ s.z) :
  (if brokenS tw (allPcs d s l f t) = true then lineTo tw (allPcs d s l f t) ((allPcs d s l f t).length - 1) else lineT tw (allPcs d s l f t) ++ [32]) = txL (mid l f t ++ [l[t]]) := by
 obtain ⟨x, hx, hxb⟩ := hl.ahead (by omega) (by omega) h2
 have hw := ((hl.lw hf (t - 1) (by omega) x hx).1 hxb).text (d := d) hy hz
 rw [show t - 1 + 1 = t by omega] at hw
 obtain ⟨w1, w2, w3⟩ := hw
 have hk := h2 l[t] (List.getElem?_eq_getElem h1)
 have hp : 0 < (pcsOf d s (mid l f t)).length := List.length_pos_iff.2 w1
 rw [txL_snoc]
 unfold allPcs
 by_cases h3 : l[t].kind = 3
 ·rw [if_pos (isPen_yes h1 h3)]
  have hb : brokenS tw (pcsOf d s (mid l f t) ++ [((smOf (mid l f t)).w + moved d s (smOf (mid l f t)), dash)]) = true := by
   have hn : (pcsOf d s (mid l f t) ++ [((smOf (mid l f t)).w + moved d s (smOf (mid l f t)), dash)]).length - 1 = (pcsOf d s (mid l f t)).length := by simp
   have hgd : (pcsOf d s (mid l f t) ++ [((smOf (mid l f t)).w + moved d s (smOf (mid l f t)), dash)]).getD (pcsOf d s (mid l f t)).length pc0 = ((smOf (mid l f t)).w + moved d s (smOf (mid l f t)), dash) := by
    rw [List.getD_eq_getElem?_getD, List.getElem?_append_right (Nat.le_refl _), Nat.sub_self]; rfl
   unfold brokenS
   rw [hn, hgd, List.take_left, decide_eq_true (by simp; omega), decide_eq_true (show dash.data.toList = [45] from rfl), decide_eq_true (show endW tw (pcsOf d s (mid l f t)) = ((smOf (mid l f t)).w + moved d s (smOf (mid l f t)), dash).1 from w2)]; rfl
  rw [if_pos hb, lineTo_init, w3]
  unfold txO
  rw [if_neg (by omega), if_neg (by omega), List.append_nil]
 ·have hg : l[t].kind = 2 := by
   rcases hl.good _ (List.getElem_mem h1) with h | h | h | h
   ·exact absurd h.1 hk
   ·exact absurd h.1 hk
   ·exact h.1
   ·exact absurd h.1 h3
  simp only [isPen_no h1 h3, Bool.false_eq_true, if_false, List.append_nil]
  rw [if_neg (by rw [hl.whole hf hft (by omega) h2 hy hz]; simp), w3]
  unfold txO
  rw [if_neg (by omega), if_pos hg]
theorem Wl.outEnd {l : List It} (hl : Wl tw l) {f : Nat} (hf : stp l f) (hft : f < l.length) {d : Int} {s : Sm} (hy : 0 ≤ s.y) (hz : 0 ≤ s.z) : lineT tw (allPcs d s l f l.length) = txL (mid l f l.length) := by
 obtain ⟨x, hx, hxb⟩ := hl.last
 have hw := ((hl.lw hf (l.length - 1) (by omega) x hx).1 hxb).text (d := d) hy hz
 rw [show l.length - 1 + 1 = l.length by omega] at hw
 unfold allPcs
 rw [if_neg (by rw [isPen_end (Nat.le_refl _)]; simp), List.append_nil, hw.2.2]
/-- where a line begins: behind what the one ahead was broken at -/
theorem Wl.fst {l : List It} (hl : Wl tw l) {n : Int} (hn : n = -1 ∨ ∃ b : Nat, n = b ∧ ∃ x, l[b]? = some x ∧ x.kind ≠ 1) : firstL l n = (n + 1).toNat ∧ stp l (n + 1).toNat := by
 rcases hn with rfl | ⟨b, rfl, x, hx, hk⟩
 ·obtain ⟨y, hy, hyk⟩ := hl.head
  obtain ⟨h1, h2⟩ := List.getElem?_eq_some_iff.1 hy
  have e : from1 (-1) l.length = 0 := by unfold from1; omega
  exact ⟨by unfold firstL; rw [e]; exact fst_hit h1 (by rw [h2]; exact hyk), .inl rfl⟩
 ·have hb := (List.getElem?_eq_some_iff.1 hx).1
  obtain ⟨-, -, z, hz, hzb, -⟩ := hl.near b x hx hk
  obtain ⟨h1, h2⟩ := List.getElem?_eq_some_iff.1 hz
  have e : from1 (b : Int) l.length = b + 1 := by unfold from1; omega
  have e2 : ((b : Int) + 1).toNat = b + 1 := by omega
  rw [e2]
  exact ⟨by unfold firstL; rw [e]; exact fst_hit h1 (by rw [h2]; exact hzb.1), .inr ⟨x, by rw [Nat.add_sub_cancel]; exact hx, by omega, hk⟩⟩
theorem lastI_take (n : Int) : ∀ (br : List Int) (i : Nat), i < br.length → lastI n (br.take (i + 1)) = br.getD i 0 := fun br i h => by
 rw [List.take_succ_eq_append_getElem h, lastI_snoc, List.getD_eq_getElem?_getD, List.getElem?_eq_getElem h]; rfl
/-- a place of a way is a place where items may be broken -/
theorem way_brk {l : List It} {wd tol : Int} {all : Bool} {br : List Int} (hb : Leg l wd tol all (-1) br) (hm : ∀ b ∈ br, b ∈ placesL l) {i : Nat} (hi : i < br.length) :
  ∃ t : Nat, br.getD i 0 = t ∧ t ≤ l.length ∧ (∀ x, l[t]? = some x → x.kind ≠ 1) ∧ firstL l (lastI (-1) (br.take i)) < t := by
 obtain ⟨h0, h1⟩ := leg_box hb i hi
 have hmem : br.getD i 0 ∈ br := by rw [List.getD_eq_getElem?_getD, List.getElem?_eq_getElem hi]; exact List.getElem_mem _
 have hp := hm _ hmem
 unfold placesL at hp
 rcases List.mem_cons.1 hp with h | h
 ·omega
 ·obtain ⟨t, e, h2, h3⟩ := brk_mem h
  refine ⟨t, e, h2, fun x hx => ?_, by rw [e] at h1; omega⟩
  obtain ⟨h4, h5⟩ := List.getElem?_eq_some_iff.1 hx
  obtain ⟨h6, h7⟩ := h3 h4
  rw [← h5]; exact h7
theorem way_from {l : List It} {wd tol : Int} {all : Bool} {br : List Int} (hb : Leg l wd tol all (-1) br) (hm : ∀ b ∈ br, b ∈ placesL l) : ∀ {i : Nat}, i < br.length →
  lastI (-1) (br.take i) = -1 ∨ ∃ b : Nat, lastI (-1) (br.take i) = b ∧ ∃ x, l[b]? = some x ∧ x.kind ≠ 1
 | 0, _ => .inl rfl
 | i + 1, h => by
  obtain ⟨t, e, h1, h2, -⟩ := way_brk hb hm (show i < br.length by omega)
  obtain ⟨t', -, h1', -, h3⟩ := way_brk hb hm h
  rw [lastI_take _ br i (by omega), e] at h3 ⊢
  have ht : t < l.length := by
   by_cases h9 : t < l.length
   ·exact h9
   ·have : firstL l (t : Int) = l.length := by
     unfold firstL
     exact fst_end (by unfold from1; omega)
    omega
  exact .inr ⟨t, rfl, l[t], List.getElem?_eq_getElem ht, h2 _ (List.getElem?_eq_getElem ht)⟩
theorem take_mid {l : List It} {f t : Nat} (h : f ≤ t) : l.take t = l.take f ++ mid l f t := by
 unfold mid
 have := (List.take_append_drop f (l.take t)).symm
 rwa [List.take_take, Nat.min_eq_left h] at this
/-- THE TEXT OF A WAY'S LINES IS THE TEXT OF THE ITEMS -/
theorem Wl.lines {l : List It} (hl : Wl tw l) {wd tol : Int} {all : Bool} {br : List Int} (hb : Leg l wd tol all (-1) br) (hm : ∀ b ∈ br, b ∈ placesL l) (he : lastI (-1) br = l.length) (width kind : Int) :
  linesT tw ((linesL l width wd tol kind (-1) true br).map Ln.ps) = txL l := by
 obtain ⟨ls, hls⟩ : ∃ x, (linesL l width wd tol kind (-1) true br).map Ln.ps = x := ⟨_, rfl⟩
 have hlen : ls.length = br.length := by rw [← hls, List.length_map, linesL_len]
 have hat : ∀ i, i < br.length → ls.getD i [] = setL l (lastI (-1) (br.take i)) (br.getD i 0) width (decide (i + 1 = br.length)) := fun i hi => by
  rw [← hls, List.getD_eq_getElem?_getD, List.getElem?_map, linesL_at l width wd tol kind br (-1) true i hi]; rfl
 rw [hls]
 have key : ∀ i, i ≤ br.length → linesTo tw ls i = txL (l.take (lastI (-1) (br.take i) + 1).toNat) := by
  intro i
  induction i with
  | zero => intro _; rfl
  | succ i ih =>
   intro hi
   have hi' : i < br.length := by omega
   obtain ⟨t, e, h1, h2, h3⟩ := way_brk hb hm hi'
   obtain ⟨f1, f2⟩ := hl.fst (way_from hb hm hi')
   rw [linesTo, ih (by omega), lastI_take _ br i hi', e]
   generalize hn : lastI (-1) (br.take i) = n at *
   generalize hf : (n + 1).toNat = f at *
   rw [f1] at h3
   have hup : upto (t : Int) l.length = t := by unfold upto; omega
   have hps : ls.getD i [] = allPcs (needOf width (decide (i + 1 = br.length)) (lineSm l f t)) (lineSm l f t) l f t := by
    rw [hat i hi', hn, e]
    unfold setL
    rw [hup, f1, if_pos h3]
   have hsb := lineSm_bd l f t
   have e1 : ((t : Int) + 1).toNat = t + 1 := by omega
   unfold lineOut
   rw [hps, hlen, e1]
   by_cases ht : t < l.length
   ·have hlast : i + 1 < br.length := by
     by_cases h9 : i + 1 < br.length
     ·exact h9
     ·have h8 := lastI_take (-1) br i hi'
      rw [List.take_of_length_le (by omega), he, e] at h8
      omega
    have ho := hl.out f2 h3 ht h2 (d := needOf width (decide (i + 1 = br.length)) (lineSm l f t)) (s := lineSm l f t) hsb.2.1.1 hsb.2.2.1
    have e3 : l.take (t + 1) = l.take f ++ (mid l f t ++ [l[t]]) := by
     rw [List.take_succ_eq_append_getElem ht, take_mid (show f ≤ t by omega), List.append_assoc]
    have e4 : txL (l.take (t + 1)) = txL (l.take f) ++ txL (mid l f t ++ [l[t]]) := by rw [e3]; unfold txL; rw [List.flatMap_append]
    rw [e4, ← ho]
    by_cases hbk : brokenS tw (allPcs (needOf width (decide (i + 1 = br.length)) (lineSm l f t)) (lineSm l f t) l f t) = true
    ·rw [if_pos ⟨hlast, hbk⟩, if_pos hbk]
    ·rw [if_neg (fun h => hbk h.2), if_neg hbk, if_pos hlast]
   ·obtain rfl : t = l.length := by omega
    have hlast : ¬ i + 1 < br.length := fun h9 => by
     obtain ⟨t', -, h1', -, h3'⟩ := way_brk hb hm h9
     rw [lastI_take _ br i hi', e] at h3'
     have : firstL l (l.length : Int) = l.length := by
      unfold firstL
      exact fst_end (by unfold from1; omega)
     omega
    have ho := hl.outEnd f2 h3 (d := needOf width (decide (i + 1 = br.length)) (lineSm l f l.length)) (s := lineSm l f l.length) hsb.2.1.1 hsb.2.2.1
    have e5 : l.take (l.length + 1) = l := List.take_of_length_le (by omega)
    rw [if_neg (fun h => hlast h.1), if_neg hlast, List.append_nil, ho, e5]
    have e3 := take_mid (l := l) (f := f) (t := l.length) (by omega)
    rw [List.take_length] at e3
    have e4 : txL l = txL (l.take f ++ mid l f l.length) := congrArg txL e3
    rw [e4]
    unfold txL
    rw [List.flatMap_append]
 unfold linesT
 rw [hlen, key _ (Nat.le_refl _), List.take_length, he, List.take_of_length_le (by omega)]
end
end Go.Proofs.YtempicociampoaaGreatDoor
