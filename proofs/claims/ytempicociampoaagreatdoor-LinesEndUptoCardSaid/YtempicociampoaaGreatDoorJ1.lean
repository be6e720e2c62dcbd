/- Words' numbers, tried out. The walks of measure's small functions and of setting's: Plain, First, spread, moved. Plain laws of markup: lines, words, parts. Plain laws of the reference's way to read a sign: byte by byte. The walks of setting.moved, measure.First. Plain laws of lines that are set: where they end, how their pieces stand. -/
import Derived.Test.YtempicociampoaaGreatDoorJ0
import Derived.Deep.QuietTactic
import Derived.BigQuiet
namespace Go.Proofs.YtempicociampoaaGreatDoor
open Go.RowKit

theorem wk1 : pointsL (numbersL [110, 97, 116, 105, 111, 110]) = [2] := by decide +kernel
theorem wk6 : numbersL [97] = [] := by decide +kernel
end Go.Proofs.YtempicociampoaaGreatDoor
namespace Go.Proofs.YtempicociampoaaGreatDoor
open Go.RowKit

set_option maxHeartbeats 400000 in
theorem Plain_any (n : Int) (w : World) (h : w64 n) :
  Calls Tryz.prog 77 #[.int .i64 n] w fun e w' => e = .returned (.int .i64 (plain n)) ∧ w = w' := by
 obtain ⟨h1, h2⟩ := h
 by_cases h0 : n < 0
 ·have hp := hid (plain_out (.inl h0))
  go_enter Tryz.func77, Tryz.ntmps77
  go_wp2
  go_ret
  exact ⟨ret_int hp.out.symm, rfl⟩
 ·by_cases h3 : 10000 < n
  ·have hp := hid (plain_out (.inr h3))
   go_enter Tryz.func77, Tryz.ntmps77
   go_wp2
   go_ret
   exact ⟨ret_int hp.out.symm, rfl⟩
  ·have hp := hid (plain_eq (n := n) (by omega) (by omega))
   go_enter Tryz.func77, Tryz.ntmps77
   go_wp2
   go_ret
   exact ⟨ret_int hp.out.symm, rfl⟩

set_option maxHeartbeats 400000 in
theorem spread_any (d a all : Int) (w : World) (h1 : -1000000000000000000 ≤ d * a) (h2 : d * a ≤ 1000000000000000000) (h3 : 0 ≤ all) (h4 : all ≤ 1000000000000) :
  Calls Tryz.prog 119 #[.int .i64 d, .int .i64 a, .int .i64 all] w fun e w' => e = .returned (.int .i64 (spread d a all)) ∧ w = w' := by
 by_cases h0 : all = 0
 ·have hp := hid (show spread d a all = 0 from if_pos h0)
  have q : (all == 0) = true := by simpa using h0
  go_enter Tryz.func119, Tryz.ntmps119
  go_wp2
  go_ret
  exact ⟨ret_int hp.out.symm, rfl⟩
 ·have hp := hid (show spread d a all = (d * a).tdiv all from if_neg h0)
  have q : (all == 0) = false := by simpa using h0
  go_enter Tryz.func119, Tryz.ntmps119
  go_wp2
  go_ret
  exact ⟨ret_int hp.out.symm, rfl⟩
end Go.Proofs.YtempicociampoaaGreatDoor
namespace Go.Proofs.YtempicociampoaaGreatDoor
open Go.RowKit Go.Lib

abbrev L8 := List UInt8
abbrev P8 := Int × List L8

/-- cut between bytes of a kind -/
def cutB (c : UInt8) : L8 → List L8
 | [] => [[]]
 | x :: r => if x = c then [] :: cutB c r else (x :: (cutB c r).headD []) :: (cutB c r).tail
theorem cutB_ne (c : UInt8) (l : L8) : cutB c l ≠ [] := by
 cases l with
 | nil => simp [cutB]
 | cons x r => unfold cutB; split <;> simp
theorem cutB_cons (c : UInt8) (l : L8) : ∃ h t, cutB c l = h :: t := by
 cases h : cutB c l with
 | nil => exact absurd h (cutB_ne c l)
 | cons x r => exact ⟨x, r, rfl⟩
theorem cutB_none {c : UInt8} : ∀ {l : L8}, c ∉ l → cutB c l = [l] := by
 intro l
 induction l with
 | nil => intro _; rfl
 | cons x r ih =>
  intro h
  simp only [List.mem_cons, not_or] at h
  unfold cutB
  rw [if_neg (fun e => h.1 e.symm), ih h.2]; rfl
theorem cutB_app (c : UInt8) (a b : L8) : cutB c (a ++ c :: b) = cutB c a ++ cutB c b := by
 induction a with
 | nil => simp [cutB]
 | cons x r ih =>
  obtain ⟨h, t, e⟩ := cutB_cons c r
  rw [List.cons_append, cutB, ih, cutB, e]
  split <;> simp
theorem cutB_hit {c : UInt8} {a : L8} (b : L8) (h : c ∉ a) : cutB c (a ++ c :: b) = a :: cutB c b := by
 rw [cutB_app, cutB_none h]; rfl
theorem cutB_mem {c : UInt8} : ∀ {l : L8} {w : L8}, w ∈ cutB c l → c ∉ w := by
 intro l
 induction l with
 | nil => intro w h; simp [cutB] at h; subst h; simp
 | cons x r ih =>
  intro w h
  obtain ⟨g, t, e⟩ := cutB_cons c r
  rw [cutB, e] at h
  split at h
  ·rcases List.mem_cons.1 h with rfl | h
   ·simp
   ·exact ih (by rw [e]; exact h)
  ·rename_i hx
   rcases List.mem_cons.1 h with rfl | h
   ·simp only [List.headD_cons, List.mem_cons, not_or]
    exact ⟨fun e => hx e.symm, ih (by rw [e]; exact List.mem_cons_self)⟩
   ·exact ih (by rw [e]; exact List.mem_cons_of_mem _ h)
theorem cutB_len (c : UInt8) (l : L8) : (cutB c l).length ≤ l.length + 1 := by
 induction l with
 | nil => simp [cutB]
 | cons x r ih =>
  obtain ⟨g, t, e⟩ := cutB_cons c r
  rw [cutB, e]; rw [e] at ih
  split <;> simp at ih ⊢ <;> omega

/-- a line's words -/
def wordsL (l : L8) : List L8 := (cutB 32 l).filter fun w => !w.isEmpty
theorem wordsL_one {w : L8} (h : w ≠ []) (h2 : (32 : UInt8) ∉ w) : wordsL w = [w] := by
 unfold wordsL
 rw [cutB_none h2]
 cases w with
 | nil => exact absurd rfl h
 | cons x r => rfl
theorem wordsL_mem {l w : L8} (h : w ∈ wordsL l) : w ≠ [] ∧ (32 : UInt8) ∉ w := by
 unfold wordsL at h
 obtain ⟨h1, h2⟩ := List.mem_filter.1 h
 exact ⟨by rintro rfl; simp at h2, cutB_mem h1⟩
end Go.Proofs.YtempicociampoaaGreatDoor
namespace Go.Proofs.YtempicociampoaaGreatDoor
open Go.Lib

def refn (b : Int) : Nat := if 240 ≤ b then 4 else if 224 ≤ b then 3 else if 192 ≤ b then 2 else 1
def refv0 (b : Int) : Int := if 240 ≤ b then b - 240 else if 224 ≤ b then b - 224 else if 192 ≤ b then b - 192 else b
/-- what is read off k + 1 bytes -/
def refv (l : List UInt8) : Nat → Int
 | 0 => refv0 (l.getD 0 0).toNat
 | k + 1 => refv l k * 64 + ((l.getD (k + 1) 0).toNat : Int) % 64

theorem refv_bd (l : List UInt8) : ∀ k : Nat, k ≤ 3 → 0 ≤ refv l k ∧ refv l k < 256 * 64 ^ k := by
 have b0 : (l.getD 0 0).toNat < 256 := UInt8.toNat_lt _
 have h0 : 0 ≤ refv l 0 ∧ refv l 0 < 256 := by
  unfold refv refv0
  split
  ·omega
  ·split
   ·omega
   ·split <;> omega
 intro k hk
 have h1 : 0 ≤ refv l 1 ∧ refv l 1 < 256 * 64 := by
  have : refv l 1 = refv l 0 * 64 + ((l.getD 1 0).toNat : Int) % 64 := rfl
  omega
 have h2 : 0 ≤ refv l 2 ∧ refv l 2 < 256 * 64 * 64 := by
  have : refv l 2 = refv l 1 * 64 + ((l.getD 2 0).toNat : Int) % 64 := rfl
  omega
 have h3 : 0 ≤ refv l 3 ∧ refv l 3 < 256 * 64 * 64 * 64 := by
  have : refv l 3 = refv l 2 * 64 + ((l.getD 3 0).toNat : Int) % 64 := rfl
  omega
 rcases (by omega : k = 0 ∨ k = 1 ∨ k = 2 ∨ k = 3) with rfl | rfl | rfl | rfl
 ·simpa using h0
 ·simpa using h1
 ·simpa [Int.mul_assoc] using h2
 ·simpa [Int.mul_assoc] using h3

/-- of a sign's bytes the reference reads the sign -/
theorem ref_enc {v : Int} (h : okv v) (t : List UInt8) :
  refn ((encodeRune v ++ t).getD 0 0).toNat = (encodeRune v).length ∧ refv (encodeRune v ++ t) ((encodeRune v).length - 1) = v := by
 have h' := h
 obtain ⟨h1, h2, h3⟩ := h'
 rcases encZ_cases h with ⟨c, e⟩ | ⟨c1, c2, e⟩ | ⟨c1, c2, e⟩ | ⟨c, e⟩
 ·simp only [encodeRune, e, List.map_cons, List.map_nil, List.cons_append, List.nil_append, List.length_cons, List.length_nil, List.getD_cons_zero]
  rw [b8 (by omega) (by omega)]
  constructor
  ·unfold refn; rw [if_neg (by omega), if_neg (by omega), if_neg (by omega)]
  ·show refv0 (((v.toNat.toUInt8 :: t).getD 0 0).toNat : Nat) = v
   rw [List.getD_cons_zero, b8 (by omega) (by omega)]
   unfold refv0; rw [if_neg (by omega), if_neg (by omega), if_neg (by omega)]; omega
 ·simp only [encodeRune, e, List.map_cons, List.map_nil, List.cons_append, List.nil_append, List.length_cons, List.length_nil, refv, List.getD_cons_zero, List.getD_cons_succ]
  rw [b8 (by omega) (by omega), b8 (by omega) (by omega)]
  constructor
  ·unfold refn; rw [if_neg (by omega), if_neg (by omega), if_pos (by omega)]
  ·unfold refv0; rw [if_neg (by omega), if_neg (by omega), if_pos (by omega)]; omega
 ·simp only [encodeRune, e, List.map_cons, List.map_nil, List.cons_append, List.nil_append, List.length_cons, List.length_nil, refv, List.getD_cons_zero, List.getD_cons_succ]
  rw [b8 (by omega) (by omega), b8 (by omega) (by omega), b8 (by omega) (by omega)]
  constructor
  ·unfold refn; rw [if_neg (by omega), if_pos (by omega)]
  ·unfold refv0; rw [if_neg (by omega), if_pos (by omega)]; omega
 ·simp only [encodeRune, e, List.map_cons, List.map_nil, List.cons_append, List.nil_append, List.length_cons, List.length_nil, refv, List.getD_cons_zero, List.getD_cons_succ]
  rw [b8 (by omega) (by omega), b8 (by omega) (by omega), b8 (by omega) (by omega), b8 (by omega) (by omega)]
  constructor
  ·unfold refn; rw [if_pos (by omega)]
  ·unfold refv0; rw [if_pos (by omega)]; omega

/-- the signs of a text; none, if it is not valid -/
noncomputable def sgn (l : List UInt8) : List Int := open Classical in if h : ∃ xs : List Int, (∀ x ∈ xs, okv x) ∧ l = txt xs then Classical.choose h else []
theorem sgn_of {l : List UInt8} {xs : List Int} (hx : ∀ x ∈ xs, okv x) (hl : l = txt xs) : sgn l = xs := by
 have h : ∃ xs : List Int, (∀ x ∈ xs, okv x) ∧ l = txt xs := ⟨xs, hx, hl⟩
 unfold sgn
 rw [dif_pos h]
 have h2 := Classical.choose_spec h
 exact txt_inj h2.1 hx (h2.2.symm.trans hl)
theorem sgn_no {l : List UInt8} (h : validD l = false) : sgn l = [] := by
 unfold sgn
 rw [dif_neg]
 intro h2
 have := (valid_iff l).2 h2
 rw [h] at this; cases this
theorem sgn_yes {l : List UInt8} (h : validD l = true) : (∀ x ∈ sgn l, okv x) ∧ l = txt (sgn l) := by
 obtain ⟨xs, hx, hl⟩ := (valid_iff l).1 h
 rw [sgn_of hx hl]; exact ⟨hx, hl⟩
end Go.Proofs.YtempicociampoaaGreatDoor
namespace Go.Proofs.YtempicociampoaaGreatDoor
open Go.RowKit

theorem mul_bd {d a : Int} (h1 : -100000000 ≤ d) (h2 : d ≤ 100000000) (h3 : 0 ≤ a) (h4 : a ≤ 100000000) : -1000000000000000000 ≤ d * a ∧ d * a ≤ 1000000000000000000 := by
 have e1 : d * a ≤ 100000000 * a := Int.mul_le_mul_of_nonneg_right h2 h3
 have e2 : (-100000000) * a ≤ d * a := Int.mul_le_mul_of_nonneg_right h1 h3
 omega

theorem spread_bd {d a all : Int} (h1 : -1000000000000000000 ≤ d * a) (h2 : d * a ≤ 1000000000000000000) : -1000000000000000000 ≤ spread d a all ∧ spread d a all ≤ 1000000000000000000 := by
 unfold spread
 split
 ·omega
 ·have e : ((d * a).tdiv all).natAbs ≤ (d * a).natAbs := by rw [Int.natAbs_tdiv]; exact Nat.div_le_self _ _
  generalize (d * a).tdiv all = q at *
  generalize d * a = p at *
  omega

set_option maxRecDepth 100000 in
set_option maxHeartbeats 1000000 in
theorem moved_any (v : Value) (f t d : Int) (s a : Sm) (w : World) (n : Nat) (hn : n ≤ 5001) (hs : s.bd n) (ha : a.bd n) (h1 : -60000000 ≤ d) (h2 : d ≤ 10000) :
  Calls Tryz.prog 106 #[.agg #[v, .int .i64 f, .int .i64 t, .int .i64 d, .int .i64 s.w, .int .i64 s.y, .int .i64 s.z], .agg #[.int .i64 a.w, .int .i64 a.y, .int .i64 a.z]] w
   fun e w' => e = .returned (.int .i64 (moved d s a)) ∧ Below w.heap.size w w' := by
 obtain ⟨⟨s1, s2⟩, ⟨s3, s4⟩, ⟨s5, s6⟩⟩ := hs
 obtain ⟨⟨a1, a2⟩, ⟨a3, a4⟩, ⟨a5, a6⟩⟩ := ha
 have B : ∀ o o', Below w.heap.size w ((w.alloc o).alloc o') := fun o o' => ((Below.refl _ w).alloc (Nat.le_refl _) _).alloc (by simp) _
 by_cases hd : 0 ≤ d
 ·have hp := hid (show moved d s a = spread d a.y s.y from if_pos hd)
  have hm := mul_bd (d := d) (a := a.y) (by omega) (by omega) a3 (by omega)
  have hc := fun w => spread_any d a.y s.y w hm.1 hm.2 s3 (by omega)
  have hb := spread_bd (all := s.y) hm.1 hm.2
  generalize spread d a.y s.y = S at *
  clear hm
  replace hc := hid hc
  go_enter Tryz.func106, Tryz.ntmps106
  go_wp2_with (fail)
  refine (hc.out _).mono ?_
  rintro e w' ⟨rfl, rfl⟩
  go_wp2
  go_ret
  exact ⟨ret_int hp.out.symm, B _ _⟩
 ·by_cases hz : -d ≤ s.z
  all_goals
   have hm := mul_bd (d := min (-d) s.z) (a := a.z) (by omega) (by omega) a5 (by omega)
   have hp := hid (show moved d s a = -(spread (min (-d) s.z) a.z s.z) from if_neg hd)
   have hc := fun w => spread_any (min (-d) s.z) a.z s.z w hm.1 hm.2 s5 (by omega)
   have hb := spread_bd (all := s.z) hm.1 hm.2
   generalize spread (min (-d) s.z) a.z s.z = S at *
   first | rw [show min (-d) s.z = -d by omega] at hc | rw [show min (-d) s.z = s.z by omega] at hc
   clear hm
   replace hc := hid hc
   go_enter Tryz.func106, Tryz.ntmps106
   go_wp2_with (fail)
   refine (hc.out _).mono ?_
   rintro e w' ⟨rfl, rfl⟩
   go_wp2
   go_ret
   exact ⟨ret_int hp.out.symm, B _ _⟩
end Go.Proofs.YtempicociampoaaGreatDoor
namespace Go.Proofs.YtempicociampoaaGreatDoor
open Go.RowKit

theorem spread_zero (d all : Int) : spread d 0 all = 0 := by unfold spread; split <;> simp
theorem spread_self {d all : Int} (h : all ≠ 0) : spread d all all = d := by
 unfold spread; rw [if_neg h]; exact Int.mul_tdiv_cancel d h
theorem spread_nil (d a : Int) : spread d a 0 = 0 := if_pos rfl
theorem spread_ediv {d a all : Int} (hd : 0 ≤ d) (ha : 0 ≤ a) : spread d a all = d * a / all := by
 unfold spread
 have := Int.mul_nonneg hd ha
 split
 ·rename_i h; simp [h]
 ·exact Int.tdiv_eq_ediv_of_nonneg this
theorem spread_mono {d a b all : Int} (hd : 0 ≤ d) (ha : 0 ≤ a) (hab : a ≤ b) (hall : 0 ≤ all) : spread d a all ≤ spread d b all := by
 rw [spread_ediv hd ha, spread_ediv hd (by omega)]
 by_cases h : all = 0
 ·simp [h]
 ·exact Int.ediv_le_ediv (by omega) (Int.mul_le_mul_of_nonneg_left hab hd)
theorem spread_one {m a z : Int} (hm : 0 ≤ m) (hmz : m ≤ z) (ha : 0 ≤ a) : spread m (a + 1) z ≤ spread m a z + 1 := by
 rw [spread_ediv hm ha, spread_ediv hm (by omega)]
 by_cases h : z = 0
 ·simp [h]
 ·have h1 : m * (a + 1) ≤ m * a + z := by rw [Int.mul_add]; omega
  have h2 := Int.ediv_le_ediv (a := m * (a + 1)) (b := m * a + z) (c := z) (by omega) h1
  have h3 : (m * a + z) / z = m * a / z + 1 := by rw [Int.add_ediv_of_dvd_right (Int.dvd_refl z), Int.ediv_self h]
  omega

section
variable (tw : ByteArray → Int)
def tb (x : It) : Prop := x.kind = 1 ∧ x.text.size ≠ 0 ∧ x.w = tw x.text ∧ (0 ≤ x.w ∧ x.w ≤ 10000) ∧ x.y = 0 ∧ x.z = 0
def gd (x : It) : Prop := tb tw x ∨ (x.kind = 1 ∧ x.text.size = 0 ∧ (0 ≤ x.w ∧ x.w ≤ 10000) ∧ x.y = 0 ∧ x.z = 0) ∨ (x.kind = 2 ∧ x.w = 4 ∧ x.y = 2 ∧ x.z = 1) ∨ (x.kind = 3 ∧ x.w = 4 ∧ x.y = 0 ∧ x.z = 0)

def cur (d : Int) (s a : Sm) : Int := a.w + moved d s a

variable {tw}
theorem cur_step {d : Int} {s a : Sm} {x : It} (hx : gd tw x) (h1 : -s.z ≤ d) (h2 : 0 ≤ s.y) (_h3 : 0 ≤ s.z) (h4 : 0 ≤ a.y) (h5 : 0 ≤ a.z) :
  cur d s a ≤ cur d s (a.step x) ∧ (tb tw x → cur d s (a.step x) = cur d s a + x.w) ∧ 0 ≤ (a.step x).y ∧ 0 ≤ (a.step x).z := by
 have same : ∀ b : Sm, b.y = a.y → b.z = a.z → moved d s b = moved d s a := fun b e1 e2 => by unfold moved; rw [e1, e2]
 have box : x.kind = 1 → (0 ≤ x.w ∧ x.w ≤ 10000) → x.y = 0 → x.z = 0 → a.step x = ⟨a.w + x.w, a.y, a.z⟩ := fun k b e1 e2 => by
  unfold Sm.step; rw [if_neg (by omega), plain_eq b.1 b.2, e1, e2, show plain 0 = 0 by decide]; simp
 rcases hx with hx | ⟨k, -, b, e1, e2⟩ | ⟨k, e0, e1, e2⟩ | ⟨k, e0, e1, e2⟩
 ·obtain ⟨k, -, -, b, e1, e2⟩ := hx
  rw [box k b e1 e2]
  have := same ⟨a.w + x.w, a.y, a.z⟩ rfl rfl
  unfold cur
  refine ⟨by simp only [this]; omega, fun _ => by simp only [this]; omega, h4, h5⟩
 ·rw [box k b e1 e2]
  have := same ⟨a.w + x.w, a.y, a.z⟩ rfl rfl
  unfold cur
  refine ⟨by simp only [this]; omega, fun _ => by simp only [this]; omega, h4, h5⟩
 ·have e : a.step x = ⟨a.w + 4, a.y + 2, a.z + 1⟩ := by
   unfold Sm.step; rw [if_neg (by omega), e0, e1, e2, show plain 4 = 4 by decide, show plain 2 = 2 by decide, show plain 1 = 1 by decide]
  rw [e]
  refine ⟨?_, fun h => ?_, by simp only []; omega, by simp only []; omega⟩
  ·unfold cur moved
   simp only []
   split
   ·rename_i hd
    have := spread_mono (b := a.y + 2) hd h4 (by omega) h2
    omega
   ·have := spread_one (m := min (-d) s.z) (a := a.z) (z := s.z) (by omega) (by omega) h5
    omega
  ·obtain ⟨k', -⟩ := h; omega
 ·have e : a.step x = ⟨a.w, a.y, a.z⟩ := by
   unfold Sm.step; rw [if_pos k, e1, e2, show plain 0 = 0 by decide]; simp
  rw [e]
  exact ⟨Int.le_refl _, fun h => by obtain ⟨k', -⟩ := h; omega, h4, h5⟩

theorem pcs_facts {d : Int} {s : Sm} (h1 : -s.z ≤ d) (h2 : 0 ≤ s.y) (h3 : 0 ≤ s.z) : ∀ (l : List It) (a : Sm), (∀ x ∈ l, gd tw x) → 0 ≤ a.y → 0 ≤ a.z →
  (∀ p ∈ pcs d s a l, cur d s a ≤ p.1 ∧ 0 ≤ tw p.2 ∧ p.1 + tw p.2 ≤ cur d s (l.foldl Sm.step a)) ∧ (pcs d s a l).Pairwise (fun p q => p.1 + tw p.2 ≤ q.1) ∧ cur d s a ≤ cur d s (l.foldl Sm.step a) := by
 intro l
 induction l with
 | nil => intro a _ _ _; exact ⟨by simp [pcs], by simp [pcs], Int.le_refl _⟩
 | cons x l ih =>
  intro a hl h4 h5
  obtain ⟨c1, c2, c3, c4⟩ := cur_step (hl x (by simp)) h1 h2 h3 h4 h5
  obtain ⟨i1, i2, i3⟩ := ih (a.step x) (fun y hy => hl y (by simp [hy])) c3 c4
  simp only [pcs, List.foldl_cons]
  split
  ·rename_i hb
   have htb : tb tw x := by
    rcases hl x (by simp) with h | ⟨-, h, -⟩ | ⟨h, -⟩ | ⟨h, -⟩
    ·exact h
    ·exact absurd h hb.2
    ·omega
    ·omega
   have c2' := c2 htb
   obtain ⟨k, hs, hw, hb2, -⟩ := htb
   refine ⟨fun p hp => ?_, List.pairwise_cons.2 ⟨fun q hq => ?_, i2⟩, by omega⟩
   ·rcases List.mem_cons.1 hp with rfl | hp
    ·refine ⟨Int.le_refl _, by simp only []; omega, ?_⟩
     simp only []; unfold cur at *; omega
    ·obtain ⟨j1, j2, j3⟩ := i1 p hp
     exact ⟨by omega, j2, j3⟩
   ·obtain ⟨j1, j2, j3⟩ := i1 q hq
    simp only []; unfold cur at *; omega
  ·refine ⟨fun p hp => ?_, i2, by omega⟩
   obtain ⟨j1, j2, j3⟩ := i1 p hp
   exact ⟨by omega, j2, j3⟩

def endW (tw : ByteArray → Int) (ps : List (Int × ByteArray)) : Int := match ps.getLast? with | none => 0 | some p => p.1 + tw p.2

/-- WHERE A LINE ENDS, and how its pieces stand. -/
theorem ends {l m' : List It} {x : It} {f t : Nat} {d : Int} (hft : f < t) (hm : mid l f t = m' ++ [x]) (hg : ∀ y ∈ mid l f t, gd tw y) (hx : tb tw x) (hdash : tw dash = 4) (hpen : ∀ y, l[t]? = some y → y.kind = 3 → y.w = 4)
  (h1 : -(lineSm l f t).z ≤ d) :
  endW tw (allPcs d (lineSm l f t) l f t) = (lineSm l f t).w + (if 0 ≤ d then (if (lineSm l f t).y = 0 then 0 else d) else d) ∧
  (allPcs d (lineSm l f t) l f t).Pairwise (fun p q => p.1 + tw p.2 ≤ q.1) ∧ (∀ p ∈ allPcs d (lineSm l f t) l f t, 0 ≤ p.1 ∧ 0 ≤ tw p.2) ∧ allPcs d (lineSm l f t) l f t ≠ [] := by
 have es : lineSm l f t = ⟨(smOf (mid l f t)).w + penW l t, (smOf (mid l f t)).y, (smOf (mid l f t)).z⟩ := if_pos hft
 obtain ⟨⟨b1, b2⟩, ⟨b3, b4⟩, ⟨b5, b6⟩⟩ := lineSm_bd l f t
 generalize lineSm l f t = s at *
 have sy : s.y = (smOf (mid l f t)).y := by rw [es]
 have sz : s.z = (smOf (mid l f t)).z := by rw [es]
 have sw' : s.w = (smOf (mid l f t)).w + penW l t := by rw [es]
 obtain ⟨p1, p2, p3⟩ := pcs_facts h1 b3 b5 (mid l f t) ⟨0, 0, 0⟩ hg (Int.le_refl _) (Int.le_refl _)
 have hz0 : cur d s ⟨0, 0, 0⟩ = 0 := by unfold cur moved; simp [spread_zero]
 have he : ∀ a : Sm, a.y = s.y → a.z = s.z → moved d s a = if 0 ≤ d then (if s.y = 0 then 0 else d) else d := by
  intro a e1 e2
  unfold moved
  rw [e1, e2]
  split
  ·split
   ·rename_i h; rw [h, spread_nil]
   ·rename_i h; exact spread_self h
  ·by_cases hz : s.z = 0
   ·omega
   ·rw [spread_self hz]; omega
 have hsm : smOf (mid l f t) = ⟨(smOf m').w + x.w, (smOf m').y, (smOf m').z⟩ := by
  rw [hm, smOf_snoc]
  obtain ⟨k, -, -, b, e1, e2⟩ := hx
  unfold Sm.step; rw [if_neg (by omega), plain_eq b.1 b.2, e1, e2, show plain 0 = 0 by decide]; simp
 have hps : pcsOf d s (mid l f t) = pcsOf d s m' ++ [((smOf m').w + moved d s (smOf m'), x.text)] := by
  rw [hm]; exact pcsOf_hit d s m' x hx.1 hx.2.1
 have ey : (smOf m').y = s.y := by rw [sy, hsm]
 have ez : (smOf m').z = s.z := by rw [sz, hsm]
 have hfold : (mid l f t).foldl Sm.step ⟨0, 0, 0⟩ = smOf (mid l f t) := rfl
 rw [hfold] at p1 p3
 have hall : ∀ p ∈ pcsOf d s (mid l f t), 0 ≤ p.1 ∧ 0 ≤ tw p.2 := fun p hp => by
  obtain ⟨j1, j2, -⟩ := p1 p hp
  exact ⟨by omega, j2⟩
 by_cases hp : isPen l t = true
 ·have hw4 : penW l t = 4 := by
   unfold isPen at hp
   unfold penW
   split at hp
   ·rename_i y hy
    have hk : y.kind = 3 := by simpa using hp
    simp only [if_pos hk, hpen y hy hk]; decide
   ·cases hp
  have ea : allPcs d s l f t = pcsOf d s (mid l f t) ++ [((smOf (mid l f t)).w + moved d s (smOf (mid l f t)), dash)] := by unfold allPcs; rw [if_pos hp]
  rw [ea]
  refine ⟨?_, ?_, ?_, by simp⟩
  ·unfold endW
   rw [List.getLast?_append]
   simp only [List.getLast?_singleton, Option.some_or]
   rw [he _ sy.symm sz.symm, hdash, sw', hw4]; omega
  ·refine List.pairwise_append.2 ⟨p2, by simp, fun p hp q hq => ?_⟩
   obtain rfl : q = _ := by simpa using hq
   exact (p1 p hp).2.2
  ·intro p hpm
   rcases List.mem_append.1 hpm with h | h
   ·exact hall p h
   ·obtain rfl : p = _ := by simpa using h
    refine ⟨?_, by rw [hdash]; decide⟩
    have : cur d s ⟨0, 0, 0⟩ ≤ cur d s (smOf (mid l f t)) := p3
    rw [hz0] at this
    exact this
 ·have hw0 : penW l t = 0 := by
   unfold isPen at hp
   unfold penW
   split
   ·rename_i y hy
    rw [hy] at hp
    have hk : ¬ y.kind = 3 := by simpa using hp
    rw [if_neg hk]
   ·rfl
  have ea : allPcs d s l f t = pcsOf d s (mid l f t) := by unfold allPcs; rw [if_neg hp]; simp
  rw [ea]
  refine ⟨?_, p2, hall, by rw [hps]; simp⟩
  rw [hps]
  unfold endW
  rw [List.getLast?_append]
  simp only [List.getLast?_singleton, Option.some_or]
  rw [he _ ey ez, ← hx.2.2.1, sw', hw0, hsm]; simp only []; omega
end
end Go.Proofs.YtempicociampoaaGreatDoor
