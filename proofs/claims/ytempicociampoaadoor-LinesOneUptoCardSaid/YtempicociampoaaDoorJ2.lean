/- Plain laws of lines: the text of lines. The walks of measure's small functions and of setting's: Plain, First, spread, moved. The walks of setting.moved, measure.First. The walk of measure.First. The walks of measure.within, measure.Line. -/
import Derived.Test.YtempicociampoaaDoorSetE
import Derived.Test.YtempicociampoaaDoorJ1
import Derived.Deep.QuietTactic
import Derived.BigQuiet
import Derived.Test.YtempicociampoaaDoorRange
namespace Go.Proofs.YtempicociampoaaDoor
open Go.RowKit

def pc0 : Int × ByteArray := (0, ⟨#[]⟩)
section
variable (tw : ByteArray → Int)
/-- does a piece stand apart from the one ahead? -/
def gapK (ps : List (Int × ByteArray)) (k : Nat) : Bool := decide (0 < k) && !decide (endW tw (ps.take k) = (ps.getD k pc0).1)
/-- the text of a line's first k pieces -/
def lineTo (ps : List (Int × ByteArray)) : Nat → List UInt8
  | 0 => []
  | k + 1 => lineTo ps k ++ (if gapK tw ps k = true then [32] else []) ++ (ps.getD k pc0).2.data.toList
def lineT (ps : List (Int × ByteArray)) : List UInt8 := lineTo tw ps ps.length
/-- does a line end with a hyphen that touches the piece ahead? -/
def brokenS (ps : List (Int × ByteArray)) : Bool := decide (1 < ps.length) && (decide ((ps.getD (ps.length - 1) pc0).2.data.toList = [45]) && decide (endW tw (ps.take (ps.length - 1)) = (ps.getD (ps.length - 1) pc0).1))
/-- what a line lays, with what stands behind -/
def lineOut (ls : List (List (Int × ByteArray))) (i : Nat) : List UInt8 :=
  if i + 1 < ls.length ∧ brokenS tw (ls.getD i []) = true then lineTo tw (ls.getD i []) ((ls.getD i []).length - 1)
  else lineT tw (ls.getD i []) ++ if i + 1 < ls.length then [32] else []
def linesTo (ls : List (List (Int × ByteArray))) : Nat → List UInt8
  | 0 => []
  | i + 1 => linesTo ls i ++ lineOut tw ls i
/-- the text of lines -/
def linesT (ls : List (List (Int × ByteArray))) : List UInt8 := linesTo tw ls ls.length
variable {tw}
theorem gapK_take {ps : List (Int × ByteArray)} {k m : Nat} (h : k < m) : gapK tw (ps.take m) k = gapK tw ps k := by
  unfold gapK
  rw [List.take_take, Nat.min_eq_left (by omega), List.getD_eq_getElem?_getD, List.getD_eq_getElem?_getD, List.getElem?_take_of_lt h]
theorem lineTo_take (ps : List (Int × ByteArray)) (m : Nat) : ∀ k, k ≤ m → lineTo tw (ps.take m) k = lineTo tw ps k
  | 0, _ => rfl
  | k + 1, h => by
    rw [lineTo, lineTo, lineTo_take ps m k (by omega), gapK_take (by omega), List.getD_eq_getElem?_getD, List.getD_eq_getElem?_getD, List.getElem?_take_of_lt (by omega)]
theorem lineT_take {ps : List (Int × ByteArray)} {m : Nat} (h : m ≤ ps.length) : lineT tw (ps.take m) = lineTo tw ps m := by
  unfold lineT
  rw [List.length_take, Nat.min_eq_left h]
  exact lineTo_take ps m m (Nat.le_refl _)
end
end Go.Proofs.YtempicociampoaaDoor
namespace Go.Proofs.YtempicociampoaaDoor
open Go.RowKit

set_option maxHeartbeats 400000 in
theorem Plain_any (n : Int) (w : World) (h : w64 n) :
    Calls Tryd.prog 47 #[.int .i64 n] w fun e w' => e = .returned (.int .i64 (plain n)) ∧ w = w' := by
  obtain ⟨h1, h2⟩ := h
  by_cases h0 : n < 0
  · have hp := hid (plain_out (.inl h0))
    go_enter Tryd.func47, Tryd.ntmps47
    go_wp2
    go_ret
    exact ⟨ret_int hp.out.symm, rfl⟩
  · by_cases h3 : 10000 < n
    · have hp := hid (plain_out (.inr h3))
      go_enter Tryd.func47, Tryd.ntmps47
      go_wp2
      go_ret
      exact ⟨ret_int hp.out.symm, rfl⟩
    · have hp := hid (plain_eq (n := n) (by omega) (by omega))
      go_enter Tryd.func47, Tryd.ntmps47
      go_wp2
      go_ret
      exact ⟨ret_int hp.out.symm, rfl⟩

set_option maxHeartbeats 400000 in
theorem spread_any (d a all : Int) (w : World) (h1 : -1000000000000000000 ≤ d * a) (h2 : d * a ≤ 1000000000000000000) (h3 : 0 ≤ all) (h4 : all ≤ 1000000000000) :
    Calls Tryd.prog 78 #[.int .i64 d, .int .i64 a, .int .i64 all] w fun e w' => e = .returned (.int .i64 (spread d a all)) ∧ w = w' := by
  by_cases h0 : all = 0
  · have hp := hid (show spread d a all = 0 from if_pos h0)
    have q : (all == 0) = true := by simpa using h0
    go_enter Tryd.func78, Tryd.ntmps78
    go_wp2
    go_ret
    exact ⟨ret_int hp.out.symm, rfl⟩
  · have hp := hid (show spread d a all = (d * a).tdiv all from if_neg h0)
    have q : (all == 0) = false := by simpa using h0
    go_enter Tryd.func78, Tryd.ntmps78
    go_wp2
    go_ret
    exact ⟨ret_int hp.out.symm, rfl⟩
end Go.Proofs.YtempicociampoaaDoor
namespace Go.Proofs.YtempicociampoaaDoor
open Go.RowKit

theorem mul_bd {d a : Int} (h1 : -100000000 ≤ d) (h2 : d ≤ 100000000) (h3 : 0 ≤ a) (h4 : a ≤ 100000000) : -1000000000000000000 ≤ d * a ∧ d * a ≤ 1000000000000000000 := by
  have e1 : d * a ≤ 100000000 * a := Int.mul_le_mul_of_nonneg_right h2 h3
  have e2 : (-100000000) * a ≤ d * a := Int.mul_le_mul_of_nonneg_right h1 h3
  omega

theorem spread_bd {d a all : Int} (h1 : -1000000000000000000 ≤ d * a) (h2 : d * a ≤ 1000000000000000000) : -1000000000000000000 ≤ spread d a all ∧ spread d a all ≤ 1000000000000000000 := by
  unfold spread
  split
  · omega
  · have e : ((d * a).tdiv all).natAbs ≤ (d * a).natAbs := by rw [Int.natAbs_tdiv]; exact Nat.div_le_self _ _
    generalize (d * a).tdiv all = q at *
    generalize d * a = p at *
    omega

set_option maxRecDepth 100000 in
set_option maxHeartbeats 1000000 in
theorem moved_any (v : Value) (f t d : Int) (s a : Sm) (w : World) (n : Nat) (hn : n ≤ 5001) (hs : s.bd n) (ha : a.bd n) (h1 : -60000000 ≤ d) (h2 : d ≤ 10000) :
    Calls Tryd.prog 70 #[.agg #[v, .int .i64 f, .int .i64 t, .int .i64 d, .int .i64 s.w, .int .i64 s.y, .int .i64 s.z], .agg #[.int .i64 a.w, .int .i64 a.y, .int .i64 a.z]] w
      fun e w' => e = .returned (.int .i64 (moved d s a)) ∧ Below w.heap.size w w' := by
  obtain ⟨⟨s1, s2⟩, ⟨s3, s4⟩, ⟨s5, s6⟩⟩ := hs
  obtain ⟨⟨a1, a2⟩, ⟨a3, a4⟩, ⟨a5, a6⟩⟩ := ha
  have B : ∀ o o', Below w.heap.size w ((w.alloc o).alloc o') := fun o o' => ((Below.refl _ w).alloc (Nat.le_refl _) _).alloc (by simp) _
  by_cases hd : 0 ≤ d
  · have hp := hid (show moved d s a = spread d a.y s.y from if_pos hd)
    have hm := mul_bd (d := d) (a := a.y) (by omega) (by omega) a3 (by omega)
    have hc := fun w => spread_any d a.y s.y w hm.1 hm.2 s3 (by omega)
    have hb := spread_bd (all := s.y) hm.1 hm.2
    generalize spread d a.y s.y = S at *
    clear hm
    replace hc := hid hc
    go_enter Tryd.func70, Tryd.ntmps70
    go_wp2_with (fail)
    refine (hc.out _).mono ?_
    rintro e w' ⟨rfl, rfl⟩
    go_wp2
    go_ret
    exact ⟨ret_int hp.out.symm, B _ _⟩
  · by_cases hz : -d ≤ s.z
    all_goals
      have hm := mul_bd (d := min (-d) s.z) (a := a.z) (by omega) (by omega) a5 (by omega)
      have hp := hid (show moved d s a = -(spread (min (-d) s.z) a.z s.z) from if_neg hd)
      have hc := fun w => spread_any (min (-d) s.z) a.z s.z w hm.1 hm.2 s5 (by omega)
      have hb := spread_bd (all := s.z) hm.1 hm.2
      generalize spread (min (-d) s.z) a.z s.z = S at *
      first | rw [show min (-d) s.z = -d by omega] at hc | rw [show min (-d) s.z = s.z by omega] at hc
      clear hm
      replace hc := hid hc
      go_enter Tryd.func70, Tryd.ntmps70
      go_wp2_with (fail)
      refine (hc.out _).mono ?_
      rintro e w' ⟨rfl, rfl⟩
      go_wp2
      go_ret
      exact ⟨ret_int hp.out.symm, B _ _⟩
end Go.Proofs.YtempicociampoaaDoor
namespace Go.Proofs.YtempicociampoaaDoor
open Go.RowKit

theorem from1_cases (n : Int) (len : Nat) : (n ≤ -1 ∧ (from1 n len : Int) = 0) ∨ (-1 < n ∧ n < len ∧ (from1 n len : Int) = n + 1) ∨ (n = len ∧ (from1 n len : Int) = len + 1) ∨ ((len : Int) < n ∧ (from1 n len : Int) = len + 1) := by
  unfold from1; omega

set_option maxRecDepth 100000 in
set_option maxHeartbeats 1000000 in
theorem First_any (v : Value) (l : List It) (n : Int) (w : World) (hl : Sl w 6 encIt v l) (hle : l.length ≤ 5000) (hn : w64 n) :
    Calls Tryd.prog 45 #[v, .int .i64 n] w fun e w' => e = .returned (.int .i64 (firstL l n)) ∧ w = w' := by
  obtain ⟨h1, h2⟩ := hn
  obtain ⟨p, cap, rfl, hmx⟩ := hl.shape
  have hf : firstL l n = fst l (from1 n l.length) := rfl
  have Hf := hid hf
  clear hf hmx
  have hc := from1_cases n l.length
  have hk : ∃ k0 : Nat, from1 n l.length = k0 := ⟨_, rfl⟩
  obtain ⟨k0, hk0⟩ := hk
  rw [hk0] at hc
  have Hk0 := hid hk0
  have Hl := hid hl
  clear hk0 hl
  rcases hc with ⟨c1, c2⟩ | ⟨c0, c1, c2⟩ | ⟨rfl, c2⟩ | ⟨c1, c2⟩
  all_goals
    go_enter Tryd.func45, Tryd.ntmps45
    go_wp2
    first | rw [← (c2 : (k0 : Int) = n + 1)] | skip
    go_loopw [5] (fun i wr => ∃ k : Nat, k ≤ l.length + 1 ∧ i = .int .i64 k ∧ fst l k0 = fst l k ∧ wr = w) (fun i _ => l.length + 1 - (RowKit.intOf i).toNat)
    case atStart => exact ⟨k0, by omega, by first | rfl | rw [c2], rfl, rfl⟩
    case round =>
      obtain ⟨k, hk, rfl, hfs, rfl⟩ := hrel
      by_cases hkl : k < l.length
      · obtain ⟨b, o, cap', he, e1, e2, e3⟩ := (Hid.out Hl).open (by rintro rfl; simp at hkl)
        cases he
        have hc := e3 k l[k] (List.getElem?_eq_getElem hkl) 0 _ rfl
        simp only [Nat.add_zero] at hc
        by_cases hb : l[k].kind = 1
        · have hr := hid (fst_hit hkl hb)
          rw [hb] at hc
          replace hfs := hid hfs
          clear e3 hb
          go_wp2
          go_ret
          exact ⟨ret_int (by rw [Hf.out, Hk0.out, hfs.out, hr.out]), rfl⟩
        · have hr := hid (fst_next hkl hb)
          have q : (l[k].kind == 1) = false := by simpa using hb
          replace hfs := hid hfs
          clear e3 hb
          generalize l[k].kind = kk at hc q
          go_wp2
          go_roundw
          case rel => exact ⟨k + 1, by omega, by go_num, by rw [hfs.out, hr.out], trivial⟩
          case measure => simp [RowKit.intOf]; omega
      · have hr := hid (fst_end (l := l) (k := k) (by omega))
        replace hfs := hid hfs
        go_wp2
        go_ret
        exact ⟨ret_int (by rw [Hf.out, Hk0.out, hfs.out, hr.out]), rfl⟩
end Go.Proofs.YtempicociampoaaDoor
namespace Go.Proofs.YtempicociampoaaDoor
open Go.RowKit Go.Shelf
attribute [local go_sem] Oper.semAt_some

def WiR (ba bf bt : Nat) (v : Value) (n t : Int) (l : List It) (W : World) : Prop :=
  W.cell? ⟨ba, 0, none⟩ = some v ∧ W.cell? ⟨bf, 0, none⟩ = some (.int .i64 n) ∧ W.cell? ⟨bt, 0, none⟩ = some (.int .i64 t) ∧ Sl W 6 encIt v l
theorem WiR.st {ba bf bt : Nat} {v : Value} {n t : Int} {l : List It} (B : Nat) : St B (WiR ba bf bt v n t l) :=
  fun _ _ hk ⟨h1, h2, h3, h4⟩ => ⟨hk.cell h1, hk.cell h2, hk.cell h3, hk.sl h4⟩
def wiEnc (x : It × Nat) : Array Value := #[.int .i64 x.2, .agg (encIt x.1).toArray]
def wiL (l : List It) (f k : Nat) : List (It × Nat) := (mid l f k).zipIdx f
theorem mid_length {l : List It} {f t : Nat} (h : f ≤ t) (ht : t ≤ l.length) : (mid l f t).length = t - f := by unfold mid; simp; omega
theorem wiL_succ {l : List It} {f k : Nat} (h : f ≤ k) (hk : k < l.length) : wiL l f (k + 1) = wiL l f k ++ [(l[k], k)] := by
  unfold wiL
  rw [mid_succ h hk, List.zipIdx_append, mid_length h (by omega)]
  simp; omega
theorem wiL_self (l : List It) (f : Nat) : wiL l f f = [] := by unfold wiL; rw [mid_self]; rfl
theorem wiL_map (l : List It) (f k : Nat) : (wiL l f k).map Prod.fst = mid l f k := by unfold wiL; simp
theorem mid_none {l : List It} {f t : Nat} (h : t ≤ f) : mid l f t = [] := by
  unfold mid; rw [List.drop_eq_nil_iff]; simp; omega

theorem item_cells {w : World} {b o : Nat} {x : It} (h : w.rangeAt b o (encIt x)) : w.cell? ⟨b, o, none⟩ = some (.int .i64 x.kind) ∧ w.cell? ⟨b, o + 1, none⟩ = some (.int .i64 x.w) ∧ w.cell? ⟨b, o + 2, none⟩ = some (.int .i64 x.y) ∧
    w.cell? ⟨b, o + 3, none⟩ = some (.int .i64 x.z) ∧ w.cell? ⟨b, o + 4, none⟩ = some (.int .i64 x.cost) ∧ w.cell? ⟨b, o + 5, none⟩ = some (.string x.text) :=
  ⟨h 0 _ rfl, h 1 _ rfl, h 2 _ rfl, h 3 _ rfl, h 4 _ rfl, h 5 _ rfl⟩

set_option maxRecDepth 100000 in
set_option maxHeartbeats 1000000 in
theorem within1_seq (ba bf bt : Nat) (v : Value) (n : Int) (t : Nat) (l : List It) (hle : l.length ≤ 5000) (hn : w64 n) (ht : t ≤ l.length) :
    Seq Tryd.prog 77 #[.pointer (some ⟨ba, 0, none⟩), .pointer (some ⟨bf, 0, none⟩), .pointer (some ⟨bt, 0, none⟩)] wiEnc (WiR ba bf bt v n t l)
      (fun pre x _ => ∃ k, firstL l n ≤ k ∧ ∃ h : k < l.length, k < t ∧ pre = wiL l (firstL l n) k ∧ x = (l[k], k)) (fun xs _ => xs = wiL l (firstL l n) t) (fun _ _ => True) := by
  intro L J Jx W hJ hJx hY h0 hR0
  obtain ⟨hca, hcf, hct, hsl⟩ := hR0
  have hF := First_any v l n W hsl hle hn
  obtain ⟨p, c, rfl, hla⟩ := hsl.shape
  have hf := fst_le l (from1 n l.length)
  have hfe : firstL l n = fst l (from1 n l.length) := rfl
  rw [← hfe] at hf
  obtain ⟨f, hfd⟩ : ∃ f, firstL l n = f := ⟨_, rfl⟩
  rw [hfd] at hf hF hY ⊢
  clear hfe hfd
  unfold maxLen at hla
  refine calls_of_wpIn Tryd.func77 rfl ?_
  simp only [Tryd.ntmps77, List.size_toArray, List.length_cons, List.length_nil, Nat.reduceAdd, Nat.reduceSub, Array.replicate_succ, Array.replicate_zero, List.push_toArray, List.append_toArray, List.nil_append, List.cons_append]
  gi_wp2_with (fail)
  refine ⟨trivial, rfl, (callsIn_wide.2 hF).mono ?_⟩
  rintro e w' ⟨rfl, rfl⟩
  gi_wp2
  gi_loopw [5] (fun i wr => ∃ k : Nat, (k = f ∨ k ≤ t) ∧ f ≤ k ∧ k ≤ l.length ∧ i = .int .i64 k ∧ J (wiL l f k) wr ∧ WiR ba bf bt (.slice p l.length c) n t l wr) (fun i _ => l.length - (RowKit.intOf i).toNat)
  case atStart => exact ⟨f, .inl rfl, Nat.le_refl _, hf, rfl, by rw [wiL_self]; exact h0, ⟨hca, hcf, hct, hsl⟩⟩
  case round =>
    obtain ⟨k, hk0, hk1, hk2, rfl, hJs, hRs⟩ := hrel
    have hRs' := hRs
    obtain ⟨wca, wcf, wct, wsl⟩ := hRs
    by_cases hlt : k < t
    · have hkl : k < l.length := by omega
      have hadm : ∃ k', f ≤ k' ∧ ∃ h : k' < l.length, k' < t ∧ wiL l f k = wiL l f k' ∧ (l[k], k) = (l[k'], k') := ⟨k, hk1, hkl, hlt, rfl, rfl⟩
      obtain ⟨fn, tmps, assign, body, hy, hR⟩ := hY _ (l[k], k) wr hJs hRs' hadm
      obtain ⟨b, o, cap', he, e1, e2, e3⟩ := wsl.open (by rintro rfl; simp at hkl)
      cases he
      obtain ⟨r0, r1, r2, r3, r4, r5⟩ := item_cells (e3 k l[k] (List.getElem?_eq_getElem hkl))
      have Hk1 := hid (wiL_succ hk1 hkl)
      clear e3 hadm
      dsimp only [wiEnc, encIt] at hy
      generalize l[k] = x at *
      gi_wp2
      refine ⟨rfl, hR.mono ?_⟩
      rintro e W3 (⟨rfl, hJ3, hR3, -⟩ | ⟨rfl, hJx3⟩)
      · have hR3' := hR3
        obtain ⟨x1, x2, x3, x4⟩ := hR3
        gi_wp2
        go_roundw
        case rel => exact ⟨k + 1, .inr (by omega), by omega, by omega, by go_num, by rw [Hk1.out]; exact hJ3, hR3'⟩
        case measure => simp [RowKit.intOf]; omega
      · gi_wp2
        refine bodyPost_ret (results_none rfl _ _ _) rfl ?_
        exact ⟨⟨_, rfl⟩, .inr ⟨_, trivial, hJx3⟩⟩
    · gi_wp2
      go_end0
      refine ⟨⟨_, rfl⟩, .inl ⟨_, rfl, ?_, hRs'⟩⟩
      rcases hk0 with rfl | hk0
      · rw [wiL_self] at hJs
        have : wiL l k t = [] := by unfold wiL; rw [mid_none (by omega)]; rfl
        rw [this]; exact hJs
      · obtain rfl : k = t := by omega
        exact hJs

set_option maxHeartbeats 400000 in
theorem within_any (w : World) (v : Value) (p : Option Addr) (m c : Nat) (n t : Int) (ev : v = .slice p m c) :
    Calls Tryd.prog 67 #[v, .int .i64 n, .int .i64 t] w fun e w' =>
      e = .returned (.func (.func 77) #[] #[.pointer (some ⟨w.heap.size, 0, none⟩), .pointer (some ⟨w.heap.size + 1, 0, none⟩), .pointer (some ⟨w.heap.size + 2, 0, none⟩)]) ∧
      w' = ((w.alloc (.cells #[v] 51)).alloc (.cells #[.int .i64 n] 3)).alloc (.cells #[.int .i64 t] 3) := by
  subst ev
  go_enter Tryd.func67, Tryd.ntmps67
  go_wp2
  go_ret
  exact ⟨rfl, rfl⟩
end Go.Proofs.YtempicociampoaaDoor
