/- Plain laws of LinesMarks: how a part's lines begin, whatever the widths. The walk of chapter 19's wakes. Plain laws of LinesEnd: a part's items are in order, where none is too wide. Plain laws of LinesText: what a part's lines hold. -/
import Derived.Test.YtempicociampoaaGreatDoorJ23
import Derived.Test.YtempicociampoaaGreatDoorJ9
import Derived.Test.YtempicociampoaaGreatDoorJ17
namespace Go.Proofs.YtempicociampoaaGreatDoor
open Go.RowKit Go.Shelf Go.Lib

theorem LnsAt.shape {W : World} {v : Value} {L : List Ln} (h : LnsAt W v L) : ∃ p c, v = .slice p L.length c ∧ L.length ≤ maxLen := by
 obtain ⟨P, h1, h2, -⟩ := h
 obtain ⟨p, c, e, hm⟩ := h1.shape
 subst h2
 exact ⟨p, c, by rw [e, List.length_map], by rw [List.length_map]; exact hm⟩
/-- a Box of some text -/
def tk (x : It) : Prop := x.kind = 1 ∧ x.text.size ≠ 0
/-- what may stand behind a Box of text: what is no Box, and a Box of text; and so on -/
inductive Tl : List It → Prop
 | nil : Tl []
 | cons {x z : It} {r : List It} : x.kind ≠ 1 → (x.kind = 2 → x.y = 2) → tk z → Tl r → Tl (x :: z :: r)
theorem Tl.app {a b : List It} (ha : Tl a) (hb : Tl b) : Tl (a ++ b) := by
 induction ha with
 | nil => exact hb
 | cons h1 h2 h3 _ ih => exact .cons h1 h2 h3 ih
theorem Tl.near {r : List It} (h : Tl r) : ∀ {z : It}, tk z → ∀ (i : Nat) (x : It), (z :: r)[i]? = some x → x.kind ≠ 1 → ∃ y, (z :: r)[i + 1]? = some y ∧ tk y := by
 induction h with
 | nil =>
  intro z hz i x hx hk
  match i, hx with
  | 0, hx => cases hx; exact absurd hz.1 hk
  | i + 1, hx => simp at hx
 | @cons u v r h1 h3 h2 _ ih =>
  intro z hz i x hx hk
  match i, hx with
  | 0, hx => cases hx; exact absurd hz.1 hk
  | 1, _ => exact ⟨v, rfl, h2⟩
  | i + 2, hx => exact ih h2 i x hx hk
/-- .. whose glue stretches -/
theorem Tl.glue {r : List It} (h : Tl r) : ∀ {z : It}, tk z → ∀ x ∈ z :: r, x.kind = 2 → x.y = 2 := by
 induction h with
 | nil =>
  intro z hz x hx hk
  obtain rfl : x = z := by simpa using hx
  have := hz.1; omega
 | @cons u v r h1 h3 h2 _ ih =>
  intro z hz x hx hk
  rcases List.mem_cons.1 hx with rfl | hx
  ·have := hz.1; omega
  ·rcases List.mem_cons.1 hx with rfl | hx
   ·exact h3 hk
   ·exact ih h2 x hx hk
theorem piece_ne {s : ByteArray} (hs : s.size ≠ 0) {k : Nat} (h : k < (cuts s).length) : (pieceAt s k).size ≠ 0 := by
 have h1 := cutAt_lt hs h
 have h2 := cutAt_bd s k
 have h3 := cutAt_bd s (k + 1)
 have e : (pieceAt s k).size = (cutAt s (k + 1)).toNat - (cutAt s k).toNat := by
  rw [← size_toList]
  unfold pieceAt
  rw [ba_extract, List.length_drop, List.length_take, size_toList]
  omega
 omega
/-- a word's items -/
theorem word_tl (c : Int) {s : ByteArray} (hs : s.size ≠ 0) : ∃ z r, wordI c s = z :: r ∧ tk z ∧ Tl r := by
 have key : ∀ k, k < (cuts s).length → ∃ r, pcIts c (pcsTo s (k + 1)) = boxT (pieceAt s 0) :: r ∧ Tl r := by
  intro k
  induction k with
  | zero => intro _; exact ⟨[], by rw [pcsTo_succ]; rfl, .nil⟩
  | succ k ih =>
   intro h
   obtain ⟨r, e, hr⟩ := ih (by omega)
   refine ⟨r ++ [penT c, boxT (pieceAt s (k + 1))], ?_, hr.app (.cons (by show (3 : Int) ≠ 1; decide) (fun h9 => absurd h9 (by show (3 : Int) ≠ 2; decide)) ⟨rfl, piece_ne hs h⟩ .nil)⟩
   rw [pcsTo_succ, pcIts_snoc, e]
   simp
 have h1 := cuts_len s
 obtain ⟨n, hn⟩ : ∃ n, (cuts s).length = n + 1 := ⟨(cuts s).length - 1, by omega⟩
 obtain ⟨r, e, hr⟩ := key n (by omega)
 refine ⟨boxT (pieceAt s 0), r, ?_, ⟨rfl, piece_ne (k := 0) hs (by omega)⟩, hr⟩
 unfold wordI pcsL
 rw [hn]; exact e
/-- a part's items: its beginning, a Box of text, and so on -/
theorem items_tl (kind ind c : Int) (ws : List ByteArray) (hw : ∀ s ∈ ws, s.size ≠ 0) : ∀ k, k < ws.length → ∃ z r, itemsTo kind ind c ws (k + 1) = beginI kind ind ++ z :: r ∧ tk z ∧ Tl r := by
 have one : ∀ k, k < ws.length → ∃ z r, (if kind = 2 then [boxT (ws.getD k eb0)] else wordI c (ws.getD k eb0)) = z :: r ∧ tk z ∧ Tl r := fun k hk => by
  have hs : (ws.getD k eb0).size ≠ 0 := by
   rw [List.getD_eq_getElem?_getD, List.getElem?_eq_getElem hk]
   exact hw _ (List.getElem_mem _)
  split
  ·exact ⟨_, _, rfl, ⟨rfl, hs⟩, .nil⟩
  ·exact word_tl c hs
 intro k
 induction k with
 | zero =>
  intro hk
  obtain ⟨z, r, e, h1, h2⟩ := one 0 hk
  exact ⟨z, r, by rw [itemsTo, e]; simp [itemsTo], h1, h2⟩
 | succ k ih =>
  intro hk
  obtain ⟨z, r, e, h1, h2⟩ := ih (by omega)
  obtain ⟨z', r', e', h1', h2'⟩ := one (k + 1) hk
  exact ⟨z, r ++ spaceT :: z' :: r', by rw [itemsTo, if_pos (by omega), e, e']; simp, h1, h2.app (.cons (by show (2 : Int) ≠ 1; decide) (fun _ => rfl) h1' h2')⟩
theorem first_tk {d : Int} {s : Sm} {x : It} {m : List It} (hx : tk x) : ∃ r, pcsOf d s (x :: m) = (0, x.text) :: r := by
 refine ⟨pcs d s (Sm.step ⟨0, 0, 0⟩ x) m, ?_⟩
 unfold pcsOf
 rw [pcs, if_pos ⟨hx.1, hx.2⟩]
 have : moved d s ⟨0, 0, 0⟩ = 0 := moved_zero rfl rfl
 rw [this]; rfl
theorem second_tk {d : Int} {s : Sm} {e x : It} {m : List It} (he : emB e) (hw : 0 ≤ e.w ∧ e.w ≤ 10000) (hx : tk x) : ∃ r, pcsOf d s (e :: x :: m) = (e.w, x.text) :: r := by
 have e1 : Sm.step ⟨0, 0, 0⟩ e = ⟨e.w, 0, 0⟩ := by
  unfold Sm.step
  rw [if_neg (by have := he.1; omega), plain_eq hw.1 hw.2, he.2.2.1, he.2.2.2, show plain 0 = 0 by decide]; simp
 refine ⟨pcs d s (Sm.step ⟨e.w, 0, 0⟩ x) m, ?_⟩
 unfold pcsOf
 rw [pcs, if_neg (fun h => h.2 he.2.1), e1, pcs, if_pos ⟨hx.1, hx.2⟩, moved_zero rfl rfl]
 simp
theorem third_tk {d : Int} {s : Sm} {a g x : It} {m : List It} (ha : tb tm a) (hg : g.kind = 2 ∧ g.w = 4 ∧ g.y = 0 ∧ g.z = 0) (hx : tk x) : ∃ r, pcsOf d s (a :: g :: x :: m) = (0, a.text) :: (a.w + 4, x.text) :: r := by
 have e1 : Sm.step ⟨0, 0, 0⟩ a = ⟨a.w, 0, 0⟩ := by
  obtain ⟨k, -, -, b, e1, e2⟩ := ha
  unfold Sm.step
  rw [if_neg (by omega), plain_eq b.1 b.2, e1, e2, show plain 0 = 0 by decide]; simp
 have e2 : Sm.step ⟨a.w, 0, 0⟩ g = ⟨a.w + 4, 0, 0⟩ := by
  obtain ⟨k, e0, e1, e2⟩ := hg
  unfold Sm.step
  rw [if_neg (by omega), e0, e1, e2, show plain 0 = 0 by decide, show plain 4 = 4 by decide]; simp
 refine ⟨pcs d s (Sm.step ⟨a.w + 4, 0, 0⟩ x) m, ?_⟩
 unfold pcsOf
 rw [pcs, if_pos ⟨ha.1, ha.2.1⟩, e1, pcs, if_neg (fun h => by omega), e2, pcs, if_pos ⟨hx.1, hx.2⟩, moved_zero rfl rfl, moved_zero rfl rfl]
 simp
theorem mid_first {l : List It} {f t : Nat} {z : It} (h : f < t) (hz : l[f]? = some z) : mid l f t = z :: mid l (f + 1) t := by
 obtain ⟨h1, h2⟩ := List.getElem?_eq_some_iff.1 hz
 unfold mid
 rw [List.drop_eq_getElem_cons (by rw [List.length_take]; omega)]
 congr 1
 rw [List.getElem_take]; exact h2
theorem tm_star6 : tm ⟨#[42]⟩ = 6 := by
 unfold tm
 rw [show sgn (⟨#[42]⟩ : ByteArray).data.toList = [42] from sgn_of (by decide) (by decide)]; decide
/-- how a part's lines begin; that there are some, none without a piece, and none of nothing -/
theorem marks_at {kind a c d e : Int} {ws : List ByteArray} (hk : 1 ≤ kind ∧ kind ≤ 3) (hw : ∀ s ∈ ws, s.size ≠ 0) (hne : ws ≠ []) (he : 0 ≤ e ∧ e ≤ 30) (h6 : (itemsOf kind e d ws).length ≤ 600) :
  ofL kind ws a c d e ≠ [] ∧ ∀ i, i < (ofL kind ws a c d e).length → ∃ x, (ofL kind ws a c d e)[i]? = some x ∧
   (∃ T r, x.ps = (if i = 0 ∧ kind = 1 then e else 0, T) :: r ∧ (i = 0 → kind = 3 → T = ⟨#[42]⟩ ∧ ∃ U q, r = (10, U) :: q)) ∧ ∀ p ∈ x.ps, p.2.size ≠ 0 := by
 have hio : itemsOf kind e d ws = itemsTo kind e d ws ws.length := by unfold itemsOf; rw [if_neg (by omega)]
 obtain ⟨n, hn⟩ : ∃ n, ws.length = n + 1 := ⟨ws.length - 1, by have := List.length_pos_iff.2 hne; omega⟩
 obtain ⟨z, r, hi, hz, hr⟩ := items_tl kind e d ws hw n (by omega)
 rw [hn, hi] at hio
 have hl := ofL_len (a := a) (c := c) (d := d) (e := e) hk hne
 have hat := @ofL_at kind a c d e ws hk hne
 rw [hl] at hat ⊢
 generalize ofL kind ws a c d e = O at *
 generalize itemsOf kind e d ws = l at *
 generalize cutI a 0 10000 = wd at *
 generalize cutI c 0 10000 = tol at *
 -- the items' beginning
 have hB : (beginI kind e = [] ∧ kind ≠ 3 ∧ (kind = 1 → e = 0)) ∨ (beginI kind e = [⟨1, e, 0, 0, 0, eb0⟩] ∧ kind = 1) ∨ (beginI kind e = [boxT ⟨#[42]⟩, tieT] ∧ kind = 3) := by
  unfold beginI
  by_cases h1 : kind = 1 ∧ 0 < e
  ·rw [if_pos h1]; exact .inr (.inl ⟨rfl, h1.1⟩)
  ·rw [if_neg h1]
   by_cases h3 : kind = 3
   ·rw [if_pos h3]; exact .inr (.inr ⟨rfl, h3⟩)
   ·rw [if_neg h3]; exact .inl ⟨rfl, h3, fun h => by omega⟩
 have hnear : ∀ (i : Nat) (x : It), l[i]? = some x → x.kind ≠ 1 → ∃ y, l[i + 1]? = some y ∧ tk y := by
  intro i x hx hxk
  rw [hio] at hx ⊢
  rcases hB with ⟨e1, -⟩ | ⟨e1, -⟩ | ⟨e1, -⟩
  ·rw [e1] at hx ⊢; exact hr.near hz i x hx hxk
  ·rw [e1] at hx ⊢
   match i, hx with
   | 0, hx => cases hx; exact absurd rfl hxk
   | i + 1, hx => exact hr.near hz i x hx hxk
  ·rw [e1] at hx ⊢
   match i, hx with
   | 0, hx => cases hx; exact absurd rfl hxk
   | 1, _ => exact ⟨z, rfl, hz⟩
   | i + 2, hx => exact hr.near hz i x hx hxk
 have hhead : ∃ x, l[0]? = some x ∧ x.kind = 1 := by
  rw [hio]
  rcases hB with ⟨e1, -⟩ | ⟨e1, -⟩ | ⟨e1, -⟩ <;> rw [e1]
  ·exact ⟨z, rfl, hz.1⟩
  ·exact ⟨_, rfl, rfl⟩
  ·exact ⟨_, rfl, rfl⟩
 have h0 : firstL l (-1) = 0 := by
  obtain ⟨y, hy, hyk⟩ := hhead
  obtain ⟨h1, h2⟩ := List.getElem?_eq_some_iff.1 hy
  have e0 : from1 (-1) l.length = 0 := by unfold from1; omega
  unfold firstL; rw [e0]; exact fst_hit h1 (by rw [h2]; exact hyk)
 have hlen : 0 < l.length := by
  obtain ⟨y, hy, -⟩ := hhead
  exact (List.getElem?_eq_some_iff.1 hy).1
 obtain ⟨all, his, hbn, -⟩ := best_is (l := l) wd tol h6 (by rw [h0]; exact hlen)
 have hleg := his.leg
 have hmem := his.mem
 have hlas := his.last
 clear his
 generalize (bestS l wd tol).br = br at *
 refine ⟨fun h => hbn (List.eq_nil_of_length_eq_zero (by rw [← hl, h]; rfl)), fun i hib => ?_⟩
 have hsz : ∀ p ∈ (lineAt l a wd tol kind br i).ps, p.2.size ≠ 0 := fun p hp => by
  unfold lineAt setL at hp
  dsimp only at hp
  split at hp
  ·exact all_sizes p hp
  ·cases hp
 refine ⟨_, hat hib, ?_, hsz⟩
 clear hat hsz
 obtain ⟨t, ht, t1, t2, t3⟩ := way_brk hleg hmem hib
 have hup : upto (t : Int) l.length = t := by unfold upto; omega
 unfold lineAt
 dsimp only
 rw [ht]
 unfold setL
 rw [hup, if_pos t3]
 unfold allPcs
 generalize needOf a (decide (i + 1 = br.length)) (lineSm l (firstL l (lastI (-1) (br.take i))) t) = D
 generalize lineSm l (firstL l (lastI (-1) (br.take i))) t = S
 by_cases hi0 : i = 0
 ·subst hi0
  have e0 : lastI (-1) (br.take 0) = -1 := rfl
  rw [e0, h0] at t3 ⊢
  generalize (if isPen l t = true then [((smOf (mid l 0 t)).w + moved D S (smOf (mid l 0 t)), dash)] else []) = Z
  rcases hB with ⟨e1, k3, k1⟩ | ⟨e1, k1⟩ | ⟨e1, k3⟩
  ·rw [e1] at hio
   rw [mid_first t3 (by rw [hio]; rfl)]
   obtain ⟨q, hq⟩ := first_tk (d := D) (s := S) (m := mid l (0 + 1) t) hz
   rw [hq]
   refine ⟨z.text, q ++ Z, ?_, fun _ h => absurd h k3⟩
   by_cases k : kind = 1
   ·rw [if_pos ⟨rfl, k⟩, k1 k]; rfl
   ·rw [if_neg (fun h => k h.2)]; rfl
  ·rw [e1] at hio
   have t4 : 1 < t := by
    by_cases h9 : t = 1
    ·subst h9
     exact absurd hz.1 (t2 z (by rw [hio]; rfl))
    ·omega
   rw [mid_first t3 (show l[0]? = some ⟨1, e, 0, 0, 0, eb0⟩ by rw [hio]; rfl), mid_first t4 (show l[0 + 1]? = some z by rw [hio]; rfl)]
   obtain ⟨q, hq⟩ := second_tk (d := D) (s := S) (e := ⟨1, e, 0, 0, 0, eb0⟩) (m := mid l (0 + 1 + 1) t) ⟨rfl, rfl, rfl, rfl⟩ ⟨he.1, by show e ≤ 10000; omega⟩ hz
   rw [hq]
   exact ⟨z.text, q ++ Z, by rw [if_pos ⟨rfl, k1⟩]; rfl, fun _ h => by omega⟩
  ·rw [e1] at hio
   have t4 : 2 < t := by
    by_cases h9 : t = 1
    ·exfalso
     have hp := hmem (br.getD 0 0) (by rw [List.getD_eq_getElem?_getD, List.getElem?_eq_getElem hib]; exact List.getElem_mem _)
     rw [ht, h9] at hp
     unfold placesL at hp
     rcases List.mem_cons.1 hp with h | h
     ·omega
     ·unfold brk at h
      rcases List.mem_append.1 h with h | h
      ·obtain ⟨j, hj, hj1⟩ := List.mem_map.1 h
       obtain rfl : j = 1 := by omega
       have := (List.mem_filter.1 hj).2
       rw [hio] at this
       exact absurd this (by simp [brkAt, tieT, plain])
      ·have h8 : ((1 : Nat) : Int) = (l.length : Int) := by simpa using h
       rw [hio] at h8
       simp at h8
       omega
    ·by_cases h8 : t = 2
     ·subst h8
      exact absurd hz.1 (t2 z (by rw [hio]; rfl))
     ·omega
   rw [mid_first t3 (show l[0]? = some (boxT ⟨#[42]⟩) by rw [hio]; rfl), mid_first (show 0 + 1 < t by omega) (show l[0 + 1]? = some tieT by rw [hio]; rfl), mid_first (show 0 + 1 + 1 < t by omega) (show l[0 + 1 + 1]? = some z by rw [hio]; rfl)]
   obtain ⟨q, hq⟩ := third_tk (d := D) (s := S) (a := boxT ⟨#[42]⟩) (g := tieT) (m := mid l (0 + 1 + 1 + 1) t) (box_tb ⟨by decide, by decide⟩) ⟨rfl, rfl, rfl, rfl⟩ hz
   rw [hq]
   refine ⟨(boxT ⟨#[42]⟩).text, ((boxT ⟨#[42]⟩).w + 4, z.text) :: q ++ Z, by rw [if_neg (by omega)]; rfl, fun _ _ => ⟨rfl, z.text, q ++ Z, ?_⟩⟩
   rw [show (boxT ⟨#[42]⟩).w = 6 from tm_star6]; rfl
 ·rcases way_from hleg hmem hib with h9 | ⟨b, e0, x, hx, hxk⟩
  ·exfalso
   obtain ⟨j, rfl⟩ : ∃ j, i = j + 1 := ⟨i - 1, by omega⟩
   obtain ⟨u, hu, -⟩ := way_brk hleg hmem (show j < br.length by omega)
   rw [lastI_take _ br j (by omega), hu] at h9
   omega
  ·obtain ⟨y, hy, hyk⟩ := hnear b x hx hxk
   obtain ⟨h1, h2⟩ := List.getElem?_eq_some_iff.1 hy
   have e2 : firstL l (b : Int) = b + 1 := by
    have e3 : from1 (b : Int) l.length = b + 1 := by unfold from1; omega
    unfold firstL; rw [e3]; exact fst_hit h1 (by rw [h2]; exact hyk.1)
   rw [e0, e2] at t3 ⊢
   generalize (if isPen l t = true then [((smOf (mid l (b + 1) t)).w + moved D S (smOf (mid l (b + 1) t)), dash)] else []) = Z
   rw [mid_first t3 hy]
   obtain ⟨q, hq⟩ := first_tk (d := D) (s := S) (m := mid l (b + 1 + 1) t) hyk
   rw [hq]
   exact ⟨y.text, q ++ Z, by rw [if_neg (fun h => hi0 h.1)]; rfl, fun h => absurd h hi0⟩
end Go.Proofs.YtempicociampoaaGreatDoor
namespace Go.Proofs.YtempicociampoaaGreatDoor
open Go.RowKit Go.Shelf Go.Lib

theorem LnsAt.kept {B : Nat} {W W' : World} {v : Value} {L : List Ln} (h : LnsAt W v L) (hk : Kept B W W') : LnsAt W' v L := by
 obtain ⟨P, h1, h2, h3⟩ := h
 exact ⟨P, hk.sl h1, h2, fun y hy => (h3 y hy).kept hk⟩
/-- the text of lines as they lie -/
theorem LTextL_any (v : Value) (L : List Ln) (w : World) (h : LnsAt w v L) (hb : ∀ x ∈ L, pcB x.ps) (hn : (linesT tw (L.map Ln.ps)).length ≤ 1000000) (hT : Tabs w) :
  Calls Tryz.prog 15 #[v] w fun e w' => e = .returned (.string ⟨(linesT tw (L.map Ln.ps)).toArray⟩) ∧ Below w.heap.size w w' := by
 obtain ⟨P, h1, h2, h3⟩ := h
 have e : L.map Ln.ps = P.map fun x => x.2.ps := by rw [← h2, List.map_map]; rfl
 rw [e] at hn ⊢
 exact LText_any v P w h1 (fun x hx => (h3 x hx).1) (fun x hx => hb _ (by rw [← h2]; exact List.mem_map_of_mem hx)) hn hT
/-- a line's own cells -/
theorem LnsAt.open {W : World} {v : Value} {L : List Ln} (h : LnsAt W v L) (hne : L ≠ []) : ∃ b o c, v = .slice (some ⟨b, o, none⟩) L.length c ∧ ∀ (i : Nat) (x : Ln), L[i]? = some x →
  W.cell? ⟨b, o + i * 5, none⟩ = some (.int .i64 x.kind) ∧ W.cell? ⟨b, o + i * 5 + 1, none⟩ = some (.bool x.first) ∧ W.cell? ⟨b, o + i * 5 + 2, none⟩ = some (.bool x.last) ∧ W.cell? ⟨b, o + i * 5 + 3, none⟩ = some (.bool x.over) ∧ ∃ p m, W.cell? ⟨b, o + i * 5 + 4, none⟩ = some (.slice p x.ps.length m) ∧ PcAt W (.slice p x.ps.length m) x.ps := by
 obtain ⟨P, h1, h2, h3⟩ := h
 subst h2
 obtain ⟨b, o, c, e, -, -, h9⟩ := h1.open (by rintro rfl; exact hne rfl)
 refine ⟨b, o, c, by rw [e, List.length_map], fun i x hx => ?_⟩
 rw [List.getElem?_map] at hx
 obtain ⟨y, hy, rfl⟩ := Option.map_eq_some_iff.1 hx
 have hr := h9 i y hy
 have hp := h3 y (List.mem_of_getElem? hy)
 obtain ⟨p, m, e2, -⟩ := hp.1.shape
 rw [e2] at hp
 refine ⟨hr 0 _ rfl, hr 1 _ rfl, hr 2 _ rfl, hr 3 _ rfl, p, m, ?_, hp⟩
 have := hr 4 _ rfl
 rw [this, ← e2]
theorem l19 : ∃ x0 x1 : Ln, ofL 1 [naB, naB] 40 200 50 0 = [x0, x1] ∧ x0.first = true ∧ x0.last = false ∧ x1.last = true := by
 have hbr : (bestS (itemsOf 1 0 50 [naB, naB]) (cutI 40 0 10000) (cutI 200 0 10000)).br.length = 2 := by rw [its19a]; exact br19a
 have h : ofL 1 [naB, naB] 40 200 50 0 = [lineAt (itemsOf 1 0 50 [naB, naB]) 40 (cutI 40 0 10000) (cutI 200 0 10000) 1 (bestS (itemsOf 1 0 50 [naB, naB]) (cutI 40 0 10000) (cutI 200 0 10000)).br 0, lineAt (itemsOf 1 0 50 [naB, naB]) 40 (cutI 40 0 10000) (cutI 200 0 10000) 1 (bestS (itemsOf 1 0 50 [naB, naB]) (cutI 40 0 10000) (cutI 200 0 10000)).br 1] := by
  rw [ofL_lines (by decide) (by simp), linesL_eq, hbr]; rfl
 refine ⟨_, _, h, rfl, ?_, ?_⟩ <;> (unfold lineAt; rw [hbr]; rfl)
theorem p19 : ∃ x0 : Ln, ofL 3 [⟨#[97]⟩] 40 200 50 0 = [x0] ∧ x0.first = true ∧ x0.last = true := by
 have hbr : (bestS (itemsOf 3 0 50 [⟨#[97]⟩]) (cutI 40 0 10000) (cutI 200 0 10000)).br.length = 1 := by rw [its19b]; exact br19b
 have h : ofL 3 [⟨#[97]⟩] 40 200 50 0 = [lineAt (itemsOf 3 0 50 [⟨#[97]⟩]) 40 (cutI 40 0 10000) (cutI 200 0 10000) 3 (bestS (itemsOf 3 0 50 [⟨#[97]⟩]) (cutI 40 0 10000) (cutI 200 0 10000)).br 0] := by
  rw [ofL_lines (by decide) (by simp), linesL_eq, hbr]; rfl
 refine ⟨_, h, rfl, ?_⟩
 unfold lineAt; rw [hbr]; rfl
theorem na_ok : okW naB := ⟨by decide, by decide⟩
theorem a_ok : okW ⟨#[97]⟩ := ⟨by decide, by decide⟩
theorem t19a : linesT tw ((ofL 1 [naB, naB] 40 200 50 0).map Ln.ps) = [110, 97, 116, 105, 111, 110, 32, 110, 97, 116, 105, 111, 110] := by
 rw [ofL_text (by decide) (fun s hs => by
  simp only [List.mem_cons, List.not_mem_nil, or_false, or_self] at hs
  subst hs; exact na_ok) (by simp) (by rw [its19a]; decide)]; rfl
theorem t19b : linesT tw ((ofL 3 [⟨#[97]⟩] 40 200 50 0).map Ln.ps) = [42, 32, 97] := by
 rw [ofL_text (by decide) (fun s hs => by obtain rfl := List.mem_singleton.1 hs; exact a_ok) (by simp) (by rw [its19b]; decide)]; rfl
set_option maxRecDepth 100000 in
set_option maxHeartbeats 4000000 in
theorem wakes19 (w : World) (hT : Tabs w) (hR : Asp w) : Calls Tryz.prog 9 #[] w fun e w' => e = .returned (.bool true) ∧ Below w.heap.size w w' := by
 have hw2 : ∀ s ∈ [naB, naB], s.size ≤ 2000000 := by decide
 have hB0 := (Below.refl w.heap.size w).alloc (Nat.le_refl _) (.cells #[.int .i64 40, .int .i64 9, .int .i64 200, .int .i64 50, .int .i64 0] 26)
 have gS := World.alloc_heap_new w (.cells #[.int .i64 40, .int .i64 9, .int .i64 200, .int .i64 50, .int .i64 0] 26)
 obtain ⟨n₀, hn₀⟩ : ∃ n, w.heap.size = n := ⟨_, rfl⟩
 obtain ⟨W1, hW1⟩ : ∃ W : World, W = w.alloc (.cells #[.int .i64 40, .int .i64 9, .int .i64 200, .int .i64 50, .int .i64 0] 26) := ⟨_, rfl⟩
 rw [← hW1, hn₀] at hB0 gS
 rw [hn₀]
 have s0 : ∀ W, Below W1.heap.size W1 W → W.cell? ⟨n₀, 0, none⟩ = some (.int .i64 40) := fun W h => cell_blk (i := 0) ((Kept.of_below h 0).same _ _ gS (.inl rfl)) rfl
 have s1 : ∀ W, Below W1.heap.size W1 W → W.cell? ⟨n₀, 1, none⟩ = some (.int .i64 9) := fun W h => cell_blk (i := 1) ((Kept.of_below h 0).same _ _ gS (.inl rfl)) rfl
 have s2 : ∀ W, Below W1.heap.size W1 W → W.cell? ⟨n₀, 2, none⟩ = some (.int .i64 200) := fun W h => cell_blk (i := 2) ((Kept.of_below h 0).same _ _ gS (.inl rfl)) rfl
 have s3 : ∀ W, Below W1.heap.size W1 W → W.cell? ⟨n₀, 3, none⟩ = some (.int .i64 50) := fun W h => cell_blk (i := 3) ((Kept.of_below h 0).same _ _ gS (.inl rfl)) rfl
 have s4 : ∀ W, Below W1.heap.size W1 W → W.cell? ⟨n₀, 4, none⟩ = some (.int .i64 0) := fun W h => cell_blk (i := 4) ((Kept.of_below h 0).same _ _ gS (.inl rfl)) rfl
 replace s0 := hid s0
 replace s1 := hid s1
 replace s2 := hid s2
 replace s3 := hid s3
 replace s4 := hid s4
 have hz1 : n₀ ≤ W1.heap.size := by have := hB0.size; omega
 have hTW := hid (fun W (h : Below W1.heap.size W1 W) => hT.below (hn₀ ▸ hB0.trans (h.mono hz1)))
 have hRW := hid (fun W (h : Below W1.heap.size W1 W) => hR.below (hn₀ ▸ hB0.trans (h.mono hz1)))
 have b1 := (Below.refl W1.heap.size W1).alloc (Nat.le_refl _) (.cells #[.string ⟨#[110, 97, 116, 105, 111, 110]⟩, .string ⟨#[110, 97, 116, 105, 111, 110]⟩] 9)
 have c1 := LOf_any 1 _ [naB, naB] 40 9 200 50 0 _ (by decide) hw2 (sl_texts W1 [naB, naB] (by decide)) (by constructor <;> decide) (by constructor <;> decide) (by constructor <;> decide) (hTW.out _ b1) (hRW.out _ b1)
 replace c1 := hid c1
 have t0 := s0.out _ b1
 have t1 := s1.out _ b1
 have t2 := s2.out _ b1
 have t3 := s3.out _ b1
 have t4 := s4.out _ b1
 clear gS
 go_enter Tryz.func9, Tryz.ntmps9
 go_upto_region 2 with (fail)
 rw [← hW1]
 clear hW1
 try simp only [hn₀]
 go_upto_region 3 with (fail)
 refine c1.out.mono ?_
 rintro e w2 ⟨v2, rfl, L2, b2⟩
 have B2 := b1.trans (b2.mono b1.size)
 clear t0 t1 t2 t3 t4 c1 b1 b2
 have t0 := s0.out _ B2
 have t1 := s1.out _ B2
 have t2 := s2.out _ B2
 have t3 := s3.out _ B2
 have t4 := s4.out _ B2
 have c2 := LOf_any 4 (.slice none 0 0) [] 40 9 200 50 0 w2 (by decide) (by simp) (.inl ⟨rfl, rfl⟩) (by constructor <;> decide) (by constructor <;> decide) (by constructor <;> decide) (hTW.out _ B2) (hRW.out _ B2)
 rw [show ofL 4 [] 40 200 50 0 = [⟨4, false, false, false, []⟩] from if_pos rfl] at c2
 replace c2 := hid c2
 replace L2 := hid L2
 go_upto_region 4 with (fail)
 refine c2.out.mono ?_
 rintro e w3 ⟨v3, rfl, L3, b3⟩
 have B3 := B2.trans (b3.mono B2.size)
 have L2' := L2.out.kept (Kept.of_below b3 0)
 have B4 := B3.alloc B3.size (.cells #[.string ⟨#[97]⟩] 9)
 have k4 := Kept.alloc 0 w3 (.cells #[.string ⟨#[97]⟩] 9)
 have hz4 := B4.size
 clear t0 t1 t2 t3 t4 c2 B2 b3 L2
 have t0 := s0.out _ B4
 have t1 := s1.out _ B4
 have t2 := s2.out _ B4
 have t3 := s3.out _ B4
 have t4 := s4.out _ B4
 have c3 := LOf_any 3 _ [⟨#[97]⟩] 40 9 200 50 0 _ (by decide) (by simp; decide) (sl_texts w3 [⟨#[97]⟩] (by decide)) (by constructor <;> decide) (by constructor <;> decide) (by constructor <;> decide) (hTW.out _ B4) (hRW.out _ B4)
 replace c3 := hid c3
 replace L2' := hid (L2'.kept k4)
 replace L3 := hid (L3.kept k4)
 clear k4
 go_upto_region 5 with (fail)
 refine c3.out.mono ?_
 rintro e w5 ⟨v4, rfl, L4, b5⟩
 have B5 := B4.trans (b5.mono hz4)
 have l2 := L2'.out.kept (Kept.of_below b5 0)
 have l3 := hid (L3.out.kept (Kept.of_below b5 0))
 replace L4 := hid L4
 have hin2 : ∀ x ∈ ofL 1 [naB, naB] 40 200 50 0, pcB x.ps := ofL_in hw2
 have hin4 : ∀ x ∈ ofL 3 [⟨#[97]⟩] 40 200 50 0, pcB x.ps := ofL_in (by simp; decide)
 have cT := hid (LTextL_any v2 _ w5 l2 hin2 (by rw [t19a]; decide) (hTW.out _ B5))
 rw [t19a] at cT
 have cU := hid (fun W (h : Below w5.heap.size w5 W) => LTextL_any v4 _ W (L4.out.kept (Kept.of_below h 0)) hin4 (by rw [t19b]; decide) (hTW.out _ (B5.trans (h.mono B5.size))))
 rw [t19b] at cU
 obtain ⟨x0, x1, e2, f1, f2, f3⟩ := l19
 rw [e2] at l2
 obtain ⟨b, o, c, rfl, hc⟩ := l2.open (by simp)
 obtain ⟨-, q1, q2, -, -⟩ := hc 0 x0 rfl
 obtain ⟨-, -, q3, -, -⟩ := hc 1 x1 rfl
 rw [f1] at q1
 rw [f2] at q2
 rw [f3] at q3
 simp only [Nat.zero_mul, Nat.add_zero, Nat.one_mul] at q1 q2 q3
 have hl2 : ([x0, x1] : List Ln).length = 2 := rfl
 rw [hl2] at cT ⊢
 clear hc l2 f1 f2 f3 e2 L2' L3 t0 t1 t2 t3 t4 s0 s1 s2 s3 s4 c3 hin2 hin4 hl2 B4 B3 b5 hz4 hw2
 go_wp2_with (fail)
 refine cT.out.mono ?_
 rintro e w6 ⟨rfl, b6⟩
 have B6 := B5.trans (b6.mono B5.size)
 have l36 := l3.out.kept (Kept.of_below b6 0)
 have l46 := L4.out.kept (Kept.of_below b6 0)
 have cV := hid (cU.out _ b6)
 obtain ⟨y0, e3, f1, f2⟩ := p19
 rw [e3] at l46
 obtain ⟨b', o', c', rfl, hc⟩ := l46.open (by simp)
 obtain ⟨be, oe, ce, rfl, he⟩ := l36.open (by simp)
 obtain ⟨-, r1, r2, -, -⟩ := hc 0 y0 rfl
 obtain ⟨r3, -, -, -, -⟩ := he 0 _ rfl
 rw [f1] at r1
 rw [f2] at r2
 simp only [Nat.zero_mul, Nat.add_zero] at r1 r2 r3
 rw [show ([y0] : List Ln).length = 1 from rfl] at cV ⊢
 rw [show ([⟨4, false, false, false, []⟩] : List Ln).length = 1 from rfl]
 clear hc he l36 l46 f1 f2 e3 q1 q2 q3 cT cU l3 L4 b6
 go_wp2_with (fail)
 refine cV.out.mono ?_
 rintro e w7 ⟨rfl, b7⟩
 have BZ := hB0.trans ((B6.trans (b7.mono B6.size)).mono hz1)
 clear r1 r2 r3 cV
 go_wp2_with (fail)
 go_ret
 exact ⟨rfl, BZ⟩
end Go.Proofs.YtempicociampoaaGreatDoor
namespace Go.Proofs.YtempicociampoaaGreatDoor
open Go.RowKit Go.Shelf Go.Lib

/-- in order, where none is too wide -/
def Wb (l : List It) : Prop := (∀ x ∈ l, x.w ≤ 10000) → Wl tm l
def Ob (l : List It) : Prop := ∀ s : ByteArray, s.size ≠ 0 → Wb (l ++ [boxT s])
theorem box_tw {s : ByteArray} (h : s.size ≠ 0) (h2 : tm s ≤ 10000) : tb tm (boxT s) := ⟨rfl, h, rfl, ⟨(tm_bd s).1, h2⟩, rfl, rfl⟩
theorem Wb.snoc2 {l : List It} {x : It} {s : ByteArray} (hl : Wb l) (hx : glW x ∨ peX x) (hs : s.size ≠ 0) (hp : x.kind = 3 → s.data.toList ≠ [45]) : Wb (l ++ [x, boxT s]) := fun hb =>
 (hl fun y hy => hb y (by simp [hy])).snoc2 hx (box_tw hs (hb (boxT s) (by simp))) hp
theorem Wb.opn {l : List It} (hl : Wb l) {x : It} (hx : glW x) : Ob (l ++ [x]) := fun s hs => by
 have := hl.snoc2 (.inl hx) hs (fun h => by have := hx.1; omega)
 rwa [show l ++ [x, boxT s] = l ++ [x] ++ [boxT s] by simp] at this
theorem Ob.word {l : List It} (hl : Ob l) (c : Int) {s : ByteArray} (hs : s.size ≠ 0) : Wb (l ++ wordI c s) := by
 have key : ∀ k, k < (cuts s).length → Wb (l ++ pcIts c (pcsTo s (k + 1))) := by
  intro k
  induction k with
  | zero =>
   intro h
   have e : pcIts c (pcsTo s (0 + 1)) = [boxT (pieceAt s 0)] := by rw [pcsTo_succ]; rfl
   rw [e]
   exact hl _ (piece_ne hs h)
  | succ k ih =>
   intro h
   have e : pcIts c (pcsTo s (k + 1 + 1)) = pcIts c (pcsTo s (k + 1)) ++ [penT c, boxT (pieceAt s (k + 1))] := by
    rw [pcsTo_succ, pcIts_snoc]
    simp
   rw [e, ← List.append_assoc]
   exact (ih (by omega)).snoc2 (.inr ⟨rfl, rfl, rfl⟩) (piece_ne hs h) (fun _ => piece_dash (by omega) h)
 have h1 := cuts_len s
 obtain ⟨n, hn⟩ : ∃ n, (cuts s).length = n + 1 := ⟨(cuts s).length - 1, by omega⟩
 have := key n (by omega)
 unfold wordI pcsL
 rwa [hn]
theorem begin_ob (kind ind : Int) : Ob (beginI kind ind) := by
 unfold beginI
 split
 ·exact fun s hs hb => opn_em (e := ⟨1, ind, 0, 0, 0, eb0⟩) ⟨rfl, rfl, rfl, rfl⟩ _ (box_tw hs (hb (boxT s) (by simp)))
 ·split
  ·have h1 : Wb ([] ++ [boxT ⟨#[42]⟩]) := fun hb => opn_nil _ (box_tb ⟨by decide, by decide⟩)
   have h2 := h1.opn (x := tieT) ⟨rfl, rfl, .inr ⟨rfl, rfl⟩⟩
   exact h2
  ·exact fun s hs hb => opn_nil _ (box_tw hs (hb (boxT s) (by simp)))
/-- A PART'S ITEMS ARE IN ORDER -/
theorem items_wb (kind ind c : Int) (ws : List ByteArray) (hw : ∀ s ∈ ws, s.size ≠ 0) : ∀ k, k < ws.length → Wb (itemsTo kind ind c ws (k + 1)) := by
 have one : ∀ (l : List It) (k : Nat), k < ws.length → Ob l → Wb (l ++ (if kind = 2 then [boxT (ws.getD k eb0)] else wordI c (ws.getD k eb0))) := fun l k hk hl => by
  have hs : (ws.getD k eb0).size ≠ 0 := by
   rw [List.getD_eq_getElem?_getD, List.getElem?_eq_getElem hk]
   exact hw _ (List.getElem_mem _)
  split
  ·exact hl _ hs
  ·exact hl.word c hs
 intro k
 induction k with
 | zero =>
  intro hk
  rw [itemsTo]
  have := one (beginI kind ind) 0 hk (begin_ob kind ind)
  simpa [itemsTo] using this
 | succ k ih =>
  intro hk
  have h1 := ih (by omega)
  rw [itemsTo, if_pos (by omega)]
  exact one _ _ hk (h1.opn ⟨rfl, rfl, .inl ⟨rfl, rfl⟩⟩)
end Go.Proofs.YtempicociampoaaGreatDoor
namespace Go.Proofs.YtempicociampoaaGreatDoor
open Go.RowKit Go.Shelf Go.Lib

theorem tm_dash : tm dash = 4 := by
 unfold tm
 rw [show sgn dash.data.toList = [45] from sgn_of (by decide) (by decide)]; decide
theorem text_none {kind a c d e : Int} {ws : List ByteArray} (hk : 1 ≤ kind ∧ kind ≤ 3) (hne : ws ≠ []) (h6 : 600 < (itemsOf kind e d ws).length) : ofL kind ws a c d e = [] := by
 refine List.eq_nil_of_length_eq_zero ?_
 rw [ofL_len hk hne, best_none _ _ (.inl h6)]; rfl
end Go.Proofs.YtempicociampoaaGreatDoor
