/- Plain laws of a part's lines: where pieces stand at most, the text, the flags. The lines that chapter 19's wakes asks for. Plain laws of the document's items of a word. The walks of the document's items: Of1 (printed by gen_lqa.py). -/
import Derived.Test.YtempicociampoaaGreatDoorLnO
import Derived.Test.YtempicociampoaaGreatDoorJ21
import Derived.Test.YtempicociampoaaGreatDoorLnK
import Derived.Test.YtempicociampoaaGreatDoorJ13
import Derived.Test.YtempicociampoaaGreatDoorHypZ
import Derived.Test.YtempicociampoaaGreatDoorJ7
import Derived.Test.YtempicociampoaaGreatDoorJ17
namespace Go.Proofs.YtempicociampoaaGreatDoor
open Go.RowKit Go.Shelf Go.Lib

theorem moved_small {d : Int} {s a : Sm} {n : Nat} (hn : n ≤ 602) (ha : a.bd n) (hs : s.bd 602) (h1 : -60000000 ≤ d) (h2 : d ≤ 10000) : -1000000000000000 ≤ moved d s a ∧ moved d s a ≤ 1000000000000000 := by
 obtain ⟨⟨s1, s2⟩, ⟨s3, s4⟩, ⟨s5, s6⟩⟩ := hs
 obtain ⟨⟨a1, a2⟩, ⟨a3, a4⟩, ⟨a5, a6⟩⟩ := ha
 have key : ∀ {e b all : Int}, -60000000 ≤ e → e ≤ 60000000 → 0 ≤ b → b ≤ 6020000 → -1000000000000000 ≤ spread e b all ∧ spread e b all ≤ 1000000000000000 := fun {e b all} e1 e2 e3 e4 => by
  have m1 : e * b ≤ 60000000 * b := Int.mul_le_mul_of_nonneg_right e2 e3
  have m2 : (-60000000) * b ≤ e * b := Int.mul_le_mul_of_nonneg_right e1 e3
  unfold spread
  split
  ·omega
  ·have h9 : ((e * b).tdiv all).natAbs ≤ (e * b).natAbs := by rw [Int.natAbs_tdiv]; exact Nat.div_le_self _ _
   generalize (e * b).tdiv all = q at *
   generalize e * b = p at *
   omega
 unfold moved
 split
 ·exact key (by omega) (by omega) a3 (by omega)
 ·have := key (e := min (-d) s.z) (b := a.z) (all := s.z) (by omega) (by omega) a5 (by omega)
  omega
theorem pcs_in {d : Int} {s : Sm} (hs : s.bd 602) (h1 : -60000000 ≤ d) (h2 : d ≤ 10000) : ∀ (l : List It) (a : Sm) (n : Nat), a.bd n → n + l.length ≤ 602 →
  ∀ p ∈ pcs d s a l, -1000000000000000000 ≤ p.1 ∧ p.1 ≤ 1000000000000000000 ∧ ∃ x ∈ l, p.2 = x.text
 | [], _, _, _, _, p, hp => by cases hp
 | x :: r, a, n, ha, hn, p, hp => by
  have hn' : n + 1 + r.length ≤ 602 := by rw [List.length_cons] at hn; omega
  have ih := pcs_in hs h1 h2 r (a.step x) (n + 1) (Sm.bd_step ha x) hn'
  have hm := moved_small (d := d) (s := s) (n := n) (by omega) ha hs h1 h2
  have ha2 := ha.1
  rw [pcs] at hp
  split at hp
  ·rcases List.mem_cons.1 hp with rfl | hp
   ·exact ⟨by dsimp only; omega, by dsimp only; omega, x, by simp, rfl⟩
   ·obtain ⟨q1, q2, y, hy, e⟩ := ih p hp
    exact ⟨q1, q2, y, by simp [hy], e⟩
  ·obtain ⟨q1, q2, y, hy, e⟩ := ih p hp
   exact ⟨q1, q2, y, by simp [hy], e⟩
theorem setL_in {l : List It} {n t wd : Int} {last : Bool} (h6 : l.length ≤ 600) (hx : ∀ x ∈ l, x.text.size ≤ 2000000) : pcB (setL l n t wd last) := by
 intro p hp
 unfold setL at hp
 split at hp
 ·have hbd := lineSm_bd l (firstL l n) (upto t l.length)
  have hb2 : (lineSm l (firstL l n) (upto t l.length)).bd 602 := by obtain ⟨⟨a1, a2⟩, ⟨a3, a4⟩, ⟨a5, a6⟩⟩ := hbd; exact ⟨⟨a1, by omega⟩, ⟨a3, by omega⟩, ⟨a5, by omega⟩⟩
  have hd : -60000000 ≤ needOf wd last (lineSm l (firstL l n) (upto t l.length)) ∧ needOf wd last (lineSm l (firstL l n) (upto t l.length)) ≤ 10000 := by
   have hp := plain_bd wd
   have := hb2.1
   unfold needOf; split <;> omega
  generalize lineSm l (firstL l n) (upto t l.length) = S at *
  generalize needOf wd last S = D at *
  have hmem : ∀ x ∈ mid l (firstL l n) (upto t l.length), x ∈ l := fun x hx => by
   unfold mid at hx
   exact List.mem_of_mem_take (List.mem_of_mem_drop hx)
  have hml : (mid l (firstL l n) (upto t l.length)).length ≤ 600 := by unfold mid; simp; omega
  have hsm := smOf_bd (mid l (firstL l n) (upto t l.length))
  unfold allPcs at hp
  obtain ⟨m, hmm⟩ : ∃ m, mid l (firstL l n) (upto t l.length) = m := ⟨_, rfl⟩
  rw [hmm] at hmem hml hsm hp
  rcases List.mem_append.1 hp with hp | hp
  ·obtain ⟨q1, q2, y, hy, e⟩ := pcs_in hb2 hd.1 hd.2 _ ⟨0, 0, 0⟩ 0 ⟨⟨by simp, by simp⟩, ⟨by simp, by simp⟩, ⟨by simp, by simp⟩⟩ (by omega) p hp
   rw [e]
   exact ⟨q1, q2, hx y (hmem y hy)⟩
  ·split at hp
   ·obtain rfl := List.mem_singleton.1 hp
    have hm := moved_small (d := D) (s := S) (a := smOf m) (n := m.length) (by omega) hsm hb2 hd.1 hd.2
    have := hsm.1
    exact ⟨by dsimp only; omega, by dsimp only; omega, by dsimp only; decide⟩
   ·cases hp
 ·cases hp
theorem ofL_in {kind a c d e : Int} {ws : List ByteArray} (hs : ∀ s ∈ ws, s.size ≤ 2000000) : ∀ x ∈ ofL kind ws a c d e, pcB x.ps := by
 intro x hx
 unfold ofL at hx
 split at hx
 ·obtain rfl := List.mem_singleton.1 hx
  intro p hp; cases hp
 ·split at hx
  ·cases hx
  ·rw [linesL_eq] at hx
   obtain ⟨i, hi, rfl⟩ := List.mem_map.1 hx
   obtain ⟨t, -, -, -, h6⟩ := best_at (itemsOf kind e d ws) (cutI a 0 10000) (cutI c 0 10000) (List.mem_range.1 hi)
   refine setL_in h6 fun x hx => ?_
   unfold itemsOf at hx
   split at hx
   ·cases hx
   ·exact items_all (P := fun x => x.text.size ≤ 2000000) (fun s h => by show s.size ≤ 2000000; omega) (by show eb0.size ≤ 2000000; decide) (by show eb0.size ≤ 2000000; decide) (by show eb0.size ≤ 2000000; decide) (by show eb0.size ≤ 2000000; decide) hs _ x hx
/-- a part's lines come of a way of its items -/
theorem ofL_way {kind a c d e : Int} {ws : List ByteArray} (hk : 1 ≤ kind ∧ kind ≤ 3) (hw : ∀ s ∈ ws, okW s) (hne : ws ≠ []) (h6 : (itemsOf kind e d ws).length ≤ 600) :
  Wl tm (itemsOf kind e d ws) ∧ itemsOf kind e d ws = itemsTo kind e d ws ws.length ∧ ∃ all, Isw (itemsOf kind e d ws) (cutI a 0 10000) (cutI c 0 10000) all (placesL (itemsOf kind e d ws)) (-1) (itemsOf kind e d ws).length (bestS (itemsOf kind e d ws) (cutI a 0 10000) (cutI c 0 10000)) ∧
   (bestS (itemsOf kind e d ws) (cutI a 0 10000) (cutI c 0 10000)).br ≠ [] ∧ bestW (itemsOf kind e d ws) (cutI a 0 10000) (cutI c 0 10000) all (placesL (itemsOf kind e d ws)) = some (bestS (itemsOf kind e d ws) (cutI a 0 10000) (cutI c 0 10000)) ∧
   (all = true → bestW (itemsOf kind e d ws) (cutI a 0 10000) (cutI c 0 10000) false (placesL (itemsOf kind e d ws)) = none) := by
 have hio : itemsOf kind e d ws = itemsTo kind e d ws ws.length := by unfold itemsOf; rw [if_neg (by omega)]
 obtain ⟨n, hn⟩ : ∃ n, ws.length = n + 1 := ⟨ws.length - 1, by have := List.length_pos_iff.2 hne; omega⟩
 have hwl : Wl tm (itemsOf kind e d ws) := by rw [hio, hn]; exact items_wl kind e d ws hw n (by omega)
 refine ⟨hwl, hio, best_is _ _ h6 ?_⟩
 obtain ⟨h1, -⟩ := hwl.fst (n := -1) (.inl rfl)
 rw [h1]
 obtain ⟨x, hx, -⟩ := hwl.head
 have := (List.getElem?_eq_some_iff.1 hx).1
 omega
theorem ofL_lines {kind a c d e : Int} {ws : List ByteArray} (hk : 1 ≤ kind ∧ kind ≤ 3) (hne : ws ≠ []) : ofL kind ws a c d e = linesL (itemsOf kind e d ws) a (cutI a 0 10000) (cutI c 0 10000) kind (-1) true (bestS (itemsOf kind e d ws) (cutI a 0 10000) (cutI c 0 10000)).br := by
 unfold ofL; rw [if_neg (by omega), if_neg hne]
/-- the text of a part's lines is its words' -/
theorem ofL_text {kind a c d e : Int} {ws : List ByteArray} (hk : 1 ≤ kind ∧ kind ≤ 3) (hw : ∀ s ∈ ws, okW s) (hne : ws ≠ []) (h6 : (itemsOf kind e d ws).length ≤ 600) :
  linesT tw ((ofL kind ws a c d e).map Ln.ps) = (wantS kind ws ws.length).data.toList := by
 obtain ⟨hwl, hio, all, his, -⟩ := ofL_way (a := a) (c := c) hk hw hne h6
 rw [ofL_lines hk hne]
 have h9 := hwl.lines his.leg his.mem his.last a kind
 rw [show linesT tw = linesT tm from rfl, h9, hio, tx_text, items_text kind e d ws hk]
theorem ofL_len {kind a c d e : Int} {ws : List ByteArray} (hk : 1 ≤ kind ∧ kind ≤ 3) (hne : ws ≠ []) : (ofL kind ws a c d e).length = (bestS (itemsOf kind e d ws) (cutI a 0 10000) (cutI c 0 10000)).br.length := by
 rw [ofL_lines hk hne, linesL_len]
theorem ofL_at {kind a c d e : Int} {ws : List ByteArray} (hk : 1 ≤ kind ∧ kind ≤ 3) (hne : ws ≠ []) {i : Nat} (hi : i < (ofL kind ws a c d e).length) :
  (ofL kind ws a c d e)[i]? = some (lineAt (itemsOf kind e d ws) a (cutI a 0 10000) (cutI c 0 10000) kind (bestS (itemsOf kind e d ws) (cutI a 0 10000) (cutI c 0 10000)).br i) := by
 rw [ofL_len hk hne] at hi
 rw [ofL_lines hk hne, linesL_eq, List.getElem?_map, List.getElem?_range hi]; rfl
end Go.Proofs.YtempicociampoaaGreatDoor
namespace Go.Proofs.YtempicociampoaaGreatDoor
open Go.RowKit Go.Shelf Go.Lib

theorem tm_na : tm ⟨#[110, 97]⟩ = 12 := by
 unfold tm
 rw [show sgn (ByteArray.mk #[110, 97]).data.toList = [110, 97] from sgn_of (by decide) (by decide)]; decide
theorem tm_tion : tm ⟨#[116, 105, 111, 110]⟩ = 19 := by
 unfold tm
 rw [show sgn (ByteArray.mk #[116, 105, 111, 110]).data.toList = [116, 105, 111, 110] from sgn_of (by decide) (by decide)]; decide
theorem tm_star : tm ⟨#[42]⟩ = 6 := by
 unfold tm
 rw [show sgn (ByteArray.mk #[42]).data.toList = [42] from sgn_of (by decide) (by decide)]; decide
theorem tm_a : tm ⟨#[97]⟩ = 6 := by
 unfold tm
 rw [show sgn (ByteArray.mk #[97]).data.toList = [97] from sgn_of (by decide) (by decide)]; decide
theorem its19a : itemsOf 1 0 50 [naB, naB] = [⟨1, 12, 0, 0, 0, ⟨#[110, 97]⟩⟩, ⟨3, 4, 0, 0, 50, eb0⟩, ⟨1, 19, 0, 0, 0, ⟨#[116, 105, 111, 110]⟩⟩, ⟨2, 4, 2, 1, 0, eb0⟩, ⟨1, 12, 0, 0, 0, ⟨#[110, 97]⟩⟩, ⟨3, 4, 0, 0, 50, eb0⟩, ⟨1, 19, 0, 0, 0, ⟨#[116, 105, 111, 110]⟩⟩] := by
 rw [items_two, word_na]
 unfold boxT
 rw [tm_na, tm_tion]; rfl
theorem its19b : itemsOf 3 0 50 [⟨#[97]⟩] = [⟨1, 6, 0, 0, 0, ⟨#[42]⟩⟩, ⟨2, 4, 0, 0, 0, eb0⟩, ⟨1, 6, 0, 0, 0, ⟨#[97]⟩⟩] := by
 show boxT ⟨#[42]⟩ :: tieT :: ([] ++ wordI 50 ⟨#[97]⟩) = _
 rw [word_a]
 unfold boxT
 rw [tm_star, tm_a]; rfl
set_option maxRecDepth 100000 in
theorem br19a : (bestS [⟨1, 12, 0, 0, 0, ⟨#[110, 97]⟩⟩, ⟨3, 4, 0, 0, 50, eb0⟩, ⟨1, 19, 0, 0, 0, ⟨#[116, 105, 111, 110]⟩⟩, ⟨2, 4, 2, 1, 0, eb0⟩, ⟨1, 12, 0, 0, 0, ⟨#[110, 97]⟩⟩, ⟨3, 4, 0, 0, 50, eb0⟩, ⟨1, 19, 0, 0, 0, ⟨#[116, 105, 111, 110]⟩⟩] 40 200).br.length = 2 := by kernel_rfl
set_option maxRecDepth 100000 in
theorem br19b : (bestS [⟨1, 6, 0, 0, 0, ⟨#[42]⟩⟩, ⟨2, 4, 0, 0, 0, eb0⟩, ⟨1, 6, 0, 0, 0, ⟨#[97]⟩⟩] 40 200).br.length = 1 := by kernel_rfl
end Go.Proofs.YtempicociampoaaGreatDoor
namespace Go.Proofs.YtempicociampoaaGreatDoor
open Go.RowKit Go.Shelf Go.Lib

/-- the items of a word's first k pieces, a pen behind each -/
noncomputable def outK (c : Int) (s : ByteArray) (k : Nat) : List It := pcIts c (pcsTo s k) ++ (if 0 < k then [penT c] else [])
theorem outK_zero (c : Int) (s : ByteArray) : outK c s 0 = [] := rfl
theorem outK_succ (c : Int) (s : ByteArray) (k : Nat) : outK c s (k + 1) = outK c s k ++ [boxT (pieceAt s k), penT c] := by
 unfold outK
 rw [pcsTo_succ, pcIts_snoc, if_pos (Nat.succ_pos k)]
 simp [List.append_assoc]
theorem outK_len (c : Int) (s : ByteArray) : ∀ k, (outK c s k).length = 2 * k
 | 0 => rfl
 | k + 1 => by rw [outK_succ, List.length_append, outK_len c s k]; simp; omega
theorem word_out (c : Int) (s : ByteArray) : wordI c s = outK c s (pointsL (numbersL s.data.toList)).length ++ [boxT (pieceAt s (pointsL (numbersL s.data.toList)).length)] := by
 have hn : (cuts s).length = (pointsL (numbersL s.data.toList)).length + 1 := by unfold cuts; simp
 unfold wordI pcsL outK
 rw [hn, pcsTo_succ, pcIts_snoc]
theorem word_none (c : Int) {s : ByteArray} (h : (pointsL (numbersL s.data.toList)).length = 0) : wordI c s = [boxT s] := by
 rw [word_out, h, outK_zero, List.nil_append]
 have hc : cuts s = [(s.size : Int)] := by unfold cuts; rw [List.eq_nil_of_length_eq_zero h]; rfl
 have : pieceAt s 0 = s := by
  unfold pieceAt
  have e1 : cutAt s 1 = (s.size : Int) := by show (cuts s).getD 0 0 = _; rw [hc]; rfl
  rw [e1]
  refine ba_ext ?_
  rw [ba_extract]
  show ((s.data.toList.take (s.size : Int).toNat).drop 0) = _
  rw [Int.toNat_natCast, List.drop_zero, List.take_of_length_le (by rw [size_toList]; exact Nat.le_refl _)]
 rw [this]
/-- a place to break is where the next piece begins -/
theorem point_at {s : ByteArray} {k : Nat} (h : k < (pointsL (numbersL s.data.toList)).length) : (pointsL (numbersL s.data.toList))[k]? = some (cutAt s (k + 1)) ∧ 0 < cutAt s (k + 1) ∧ cutAt s k ≤ cutAt s (k + 1) ∧ cutAt s (k + 1) ≤ s.size := by
 have e : cutAt s (k + 1) = (pointsL (numbersL s.data.toList))[k] := by
  show (cuts s).getD k 0 = _
  unfold cuts
  rw [List.getD_eq_getElem?_getD, List.getElem?_append_left h, List.getElem?_eq_getElem h]; rfl
 refine ⟨by rw [e]; exact List.getElem?_eq_getElem h, by rw [e]; exact ((points_ok s.data.toList).1 _ (List.getElem_mem h)).1, cutAt_mono s (by unfold cuts; simp; omega), (cutAt_bd s (k + 1)).2⟩
/-- the text of a part of the signs of a word that has points -/
theorem part_text {s : ByteArray} (h : (pointsL (numbersL s.data.toList)).length ≠ 0) (i j : Nat) : rtextOut (((sgn s.data.toList).take j).drop i) = #[.string (s.extract i j), .bool true] := by
 have hl := points_let (s := s.data.toList) (fun h9 => h (by rw [h9]; rfl))
 rw [sgn_asc hl, ascL_part]
 have hp : ∀ b ∈ (s.data.toList.take j).drop i, b.toNat < 128 := fun b hb => hl b (List.mem_of_mem_take (List.mem_of_mem_drop hb))
 obtain ⟨h1, h2⟩ := asc_txt hp
 unfold rtextOut
 rw [if_pos h2, h1]
 have : (⟨((s.data.toList.take j).drop i).toArray⟩ : ByteArray) = s.extract i j := ba_ext (by rw [ba_extract])
 rw [this]
theorem sgn_size {s : ByteArray} (h : (pointsL (numbersL s.data.toList)).length ≠ 0) : (sgn s.data.toList).length = s.size := by
 have hl := points_let (s := s.data.toList) (fun h9 => h (by rw [h9]; rfl))
 rw [sgn_asc hl]
 unfold ascL
 rw [List.length_map, size_toList]
theorem last_piece (s : ByteArray) : pieceAt s (pointsL (numbersL s.data.toList)).length = s.extract (cutAt s (pointsL (numbersL s.data.toList)).length).toNat s.size := by
 have hn : (cuts s).length = (pointsL (numbersL s.data.toList)).length + 1 := by unfold cuts; simp
 unfold pieceAt
 have := cutAt_end s
 rw [hn] at this
 rw [this, Int.toNat_natCast]
end Go.Proofs.YtempicociampoaaGreatDoor
namespace Go.Proofs.YtempicociampoaaGreatDoor
open Go.RowKit Go.Shelf Go.Lib

set_option maxRecDepth 100000 in
set_option maxHeartbeats 2000000 in
theorem ROf1_any (T : ByteArray) (w : World) (hs : T.size ≤ 2000000) : Calls Tryz.prog 39 #[.string T] w fun e w' => e = .returned (.agg #[.int .i64 1, .int .i64 (tm T), .int .i64 0, .int .i64 0, .int .i64 0, .string T]) ∧ Below w.heap.size w w' := by
 have g1 := World.alloc_heap_new w (.cells #[.int .i64 0, .int .i64 0, .int .i64 0, .int .i64 0, .int .i64 0, .string ⟨#[]⟩] 49)
 have B1 := (Below.refl w.heap.size w).alloc (Nat.le_refl _) (.cells #[.int .i64 0, .int .i64 0, .int .i64 0, .int .i64 0, .int .i64 0, .string ⟨#[]⟩] 49)
 obtain ⟨n₀, hn₀⟩ : ∃ n, w.heap.size = n := ⟨_, rfl⟩
 obtain ⟨W1, hW1⟩ : ∃ W : World, W = w.alloc (.cells #[.int .i64 0, .int .i64 0, .int .i64 0, .int .i64 0, .int .i64 0, .string ⟨#[]⟩] 49) := ⟨_, rfl⟩
 rw [← hW1, hn₀] at g1 B1
 rw [hn₀]
 have hz1 : n₀ < W1.heap.size := (Array.getElem?_eq_some_iff.1 g1).1
 have cT := hid (show Calls Tryz.prog 60 #[.string T] W1 fun e w' => e = .returned (.int .i64 (tm T)) ∧ Below W1.heap.size W1 w' from RMText_any T W1 hs)
 obtain ⟨M, hM⟩ : ∃ x, tm T = x := ⟨_, rfl⟩
 rw [hM] at cT ⊢
 clear hM
 go_enter Tryz.func39, Tryz.ntmps39
 go_upto_region 1 with (fail)
 rw [← hW1]
 clear hW1
 try simp only [hn₀]
 go_wp2_with (fail)
 refine cT.out.mono ?_
 rintro r w2 ⟨rfl, b2⟩
 have g2 := (Kept.of_below b2 0).same _ _ g1 (.inl rfl)
 have B2 := B1.trans (b2.mono (by omega))
 have ht : w2.there n₀ 0 (#[.int .i64 1, .int .i64 M, .int .i64 0, .int .i64 0, .int .i64 0, .string T] : Array Value).size := there_blk g2 rfl
 have u := (Upd.refl g2).setCells (#[.int .i64 1, .int .i64 M, .int .i64 0, .int .i64 0, .int .i64 0, .string T] : Array Value).toList rfl
 have g3 := u.here
 rw [Array.toArray_toList] at g3
 have B3 := u.below B2 (Nat.le_refl _)
 replace g3 := hid g3
 replace B3 := hid B3
 clear u g1 g2 B1 B2 cT b2
 go_wp2_with (refine wpList_store_mid rfl 49 _ _ rfl n₀ 0 #[.int .i64 1, .int .i64 M, .int .i64 0, .int .i64 0, .int .i64 0, .string T] rfl rfl ht (by kernel_rfl) (item_one ⟨1, M, 0, 0, 0, T⟩) ?_)
 exact outRow (ty := 49) rfl g3.out rfl rfl (by kernel_rfl) (by kernel_rfl) ⟨rfl, B3.out⟩
/-- a part of a slice, from one place to another -/
theorem slice_mid {P : Program} {α : Type} {enc : α → List Value} (t e : TypeId) (hu : P.underlying t = some (.slice e)) (hK : (P.info? e).map (·.size) = some 1) {v : Value} {l : List α} {i j : Nat} (hij : i ≤ j) (hj : j ≤ l.length) {W0 : World} (h0 : Sl W0 1 enc v l) :
  ∃ s, (∀ W, (Instr.sliceAt t v (some (.int .i64 i)) (some (.int .i64 j)) none).run P W = .ok s W) ∧ (∀ W, Sl W 1 enc v l → Sl W 1 enc s ((l.take j).drop i)) ∧ ∃ p c, s = .slice p (j - i) c := by
 obtain ⟨a, c, rfl, hc⟩ : ∃ a c, v = .slice a l.length c ∧ l.length ≤ c := by
  rcases h0 with ⟨rfl, rfl⟩ | ⟨a, c, rfl, h1, -⟩
  ·exact ⟨none, 0, rfl, Nat.le_refl _⟩
  ·exact ⟨some a, c, rfl, h1⟩
 have hlt : (l.take j).length = j := by simp; omega
 obtain ⟨s, h1, h2, p, c', h3⟩ := slice_drop (P := P) (enc := enc) (l := l.take j) (k := i) t e 1 hu hK (v := .slice a j c) (by rw [hlt]; exact hij) (W0 := W0) (by
  rcases h0 with ⟨h, rfl⟩ | ⟨a', cap, h, q1, q2, q3, q4⟩
  ·cases h
   simp at hj
   subst hj
   exact .inl ⟨rfl, rfl⟩
  ·simp only [Value.slice.injEq] at h
   obtain ⟨rfl, -, rfl⟩ := h
   refine .inr ⟨a', c, by rw [hlt], by rw [hlt]; omega, q2, fun hne => q3 (by rintro rfl; simp at hne), fun k x hx => q4 k x ?_⟩
   rw [List.getElem?_take] at hx
   split at hx
   ·exact hx
   ·cases hx)
 refine ⟨s, fun W => ?_, fun W h => h2 W ?_, p, c', by rw [h3, hlt]⟩
 ·have e1 := h1 W
  have hb : (Instr.sliceBounds true l.length c (some (.int .i64 (i : Int))) (some (.int .i64 (j : Int))) none).run P W = .ok (i, j, c) W := by
   have q1 : (j : Int) ≤ (c : Int) := by omega
   have q2 : (i : Int) ≤ (j : Int) := by omega
   simp [Instr.sliceBounds, run_sliceBound _ _ _ _ _ (show (0 : Int) ≤ (i : Int) by omega) q2, run_sliceBound _ _ _ _ _ (show (0 : Int) ≤ (j : Int) by omega) q1]
  have hb2 : (Instr.sliceBounds true j c (some (.int .i64 (i : Int))) none none).run P W = .ok (i, j, c) W := by
   have q2 : (i : Int) ≤ (j : Int) := by omega
   simp [Instr.sliceBounds, run_sliceBound _ _ _ _ _ (show (0 : Int) ≤ (i : Int) by omega) q2]
  rw [run_slice_lit W t e 1 hu hK a _ c _ _ i j hb]
  rw [run_slice_lit W t e 1 hu hK a _ c _ _ i j hb2] at e1
  exact e1
 ·rcases h with ⟨h, rfl⟩ | ⟨a', cap, h, q1, q2, q3, q4⟩
  ·cases h
   simp at hj
   subst hj
   exact .inl ⟨rfl, rfl⟩
  ·simp only [Value.slice.injEq] at h
   obtain ⟨rfl, -, rfl⟩ := h
   refine .inr ⟨a', c, by rw [hlt], by rw [hlt]; omega, q2, fun hne => q3 (by rintro rfl; simp at hne), fun k x hx => q4 k x ?_⟩
   rw [List.getElem?_take] at hx
   split at hx
   ·exact hx
   ·cases hx
end Go.Proofs.YtempicociampoaaGreatDoor
