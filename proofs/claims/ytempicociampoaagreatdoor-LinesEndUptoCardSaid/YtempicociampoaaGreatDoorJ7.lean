/- A part of a slice, whatever slice it is. Rows of any size of an owned slice set; the rows of found ways. The walks of slices.Compare and slices.Clone at ints; which of two ways is better. -/
import Derived.Test.YtempicociampoaaGreatDoorJ6
import Derived.BigFrame
import Derived.Deep.RegionHeld3
import Derived.Test.YtempicociampoaaGreatDoorRange
import Derived.Test.YtempicociampoaaGreatDoorJ5
import Derived.Lib.LazyBuf
namespace Go.Proofs.YtempicociampoaaGreatDoor
open Go.RowKit Go.Shelf Go.Lib

section
variable {P : Program}
theorem run_slice_lit (W : World) (t e : TypeId) (K : Nat) (hu : P.underlying t = some (.slice e)) (hK : (P.info? e).map (·.size) = some K) (a : Option Addr) (L c : Nat) (lo hi : Option Value) (l h : Nat)
  (hb : (Instr.sliceBounds true L c lo hi none).run P W = .ok (l, h, c) W) : (Instr.sliceAt t (.slice a L c) lo hi none).run P W = .ok (.slice (if c = l then a else a.map (·.add (l * K))) (h - l) (c - l)) W := by
 obtain ⟨i, hi0, hi1⟩ := Option.map_eq_some_iff.1 hK
 have he : P.elem t = e := by simp [Program.elem, hu]
 rw [run_sliceAt_slice _ t _ _ _ _ (by rw [he]; exact hu)]
 simp [Instr.slice, run_underlying hu, hb, sizeOf, typeInfo, hi0, hi1]
theorem slice_take {α : Type} {enc : α → List Value} (t e : TypeId) (K : Nat) (hu : P.underlying t = some (.slice e)) (hK : (P.info? e).map (·.size) = some K) {v : Value} {l : List α} {k : Nat} (hk : k ≤ l.length) {W0 : World} (h0 : Sl W0 K enc v l) :
  ∃ s, (∀ W, (Instr.sliceAt t v none (some (.int .i64 k)) none).run P W = .ok s W) ∧ (∀ W, Sl W K enc v l → Sl W K enc s (l.take k)) ∧ ∃ p c, s = .slice p k c := by
 obtain ⟨a, c, rfl, hc⟩ : ∃ a c, v = .slice a l.length c ∧ l.length ≤ c := by
  rcases h0 with ⟨rfl, rfl⟩ | ⟨a, c, rfl, h1, -⟩
  ·exact ⟨none, 0, rfl, Nat.le_refl _⟩
  ·exact ⟨some a, c, rfl, h1⟩
 refine ⟨.slice a k c, fun W => ?_, fun W h => ?_, a, c, rfl⟩
 ·have hb : (Instr.sliceBounds true l.length c none (some (.int .i64 (k : Int))) none).run P W = .ok (0, k, c) W := by
   have h9 : (k : Int) ≤ (c : Int) := by omega
   simp [Instr.sliceBounds, run_sliceBound _ _ _ _ _ (show (0 : Int) ≤ (k : Int) by omega) h9]
  rw [run_slice_lit W t e K hu hK a _ c _ _ 0 k hb]
  have : a.map (fun x => x.add 0) = a := by
   cases a with
   | none => rfl
   | some x => rw [Option.map_some]; unfold Addr.add; rw [if_pos rfl]
  split <;> simp [this]
 ·have hlk : (l.take k).length = k := by simp; omega
  rcases h with ⟨h, rfl⟩ | ⟨a', cap, h, h1, h2, h3, h4⟩
  ·cases h
   simp at hk
   subst hk
   exact .inl ⟨rfl, rfl⟩
  ·simp only [Value.slice.injEq] at h
   obtain ⟨rfl, -, rfl⟩ := h
   refine .inr ⟨a', c, by rw [hlk], by rw [hlk]; omega, h2, fun hne => h3 (by rintro rfl; simp at hne), fun i x hx => h4 i x ?_⟩
   rw [List.getElem?_take] at hx
   split at hx
   ·exact hx
   ·cases hx
theorem slice_drop {α : Type} {enc : α → List Value} (t e : TypeId) (K : Nat) (hu : P.underlying t = some (.slice e)) (hK : (P.info? e).map (·.size) = some K) {v : Value} {l : List α} {k : Nat} (hk : k ≤ l.length) {W0 : World} (h0 : Sl W0 K enc v l) :
  ∃ s, (∀ W, (Instr.sliceAt t v (some (.int .i64 k)) none none).run P W = .ok s W) ∧ (∀ W, Sl W K enc v l → Sl W K enc s (l.drop k)) ∧ ∃ p c, s = .slice p (l.length - k) c := by
 obtain ⟨a, c, rfl, hc⟩ : ∃ a c, v = .slice a l.length c ∧ l.length ≤ c := by
  rcases h0 with ⟨rfl, rfl⟩ | ⟨a, c, rfl, h1, -⟩
  ·exact ⟨none, 0, rfl, Nat.le_refl _⟩
  ·exact ⟨some a, c, rfl, h1⟩
 refine ⟨.slice (if c = k then a else a.map (·.add (k * K))) (l.length - k) (c - k), fun W => ?_, fun W h => ?_, _, _, rfl⟩
 ·refine run_slice_lit W t e K hu hK a _ c _ _ k l.length ?_
  have h9 : (k : Int) ≤ (l.length : Int) := by omega
  simp [Instr.sliceBounds, run_sliceBound _ _ _ _ _ (show (0 : Int) ≤ (k : Int) by omega) h9]
 ·have hlk : (l.drop k).length = l.length - k := by simp
  rcases h with ⟨h, rfl⟩ | ⟨a', cap, h, h1, h2, h3, h4⟩
  ·cases h
   simp at hk
   subst hk
   exact .inl ⟨rfl, rfl⟩
  ·simp only [Value.slice.injEq] at h
   obtain ⟨rfl, -, rfl⟩ := h
   by_cases e1 : c = k
   ·rw [if_pos e1]
    have hd : l.drop k = [] := List.drop_eq_nil_of_le (by omega)
    rw [hd]
    exact .inr ⟨a', c - k, by rw [show l.length - k = 0 by omega]; rfl, by simp, by omega, fun h => absurd rfl h, fun i x hx => by simp at hx⟩
   ·rw [if_neg e1]
    by_cases e2 : k = 0
    ·subst e2
     rw [Nat.zero_mul]
     simp only [Option.map_some, Addr.add, if_true, List.drop_zero, Nat.sub_zero]
     exact .inr ⟨a', c, rfl, h1, h2, h3, h4⟩
    ·refine .inr ⟨a'.add (k * K), c - k, by rw [hlk]; rfl, by rw [hlk]; omega, by omega, fun hne => ?_, fun i x hx => ?_⟩
     ·have h5 := h3 (by rintro rfl; simp at hne)
      unfold Addr.add
      split
      ·exact h5
      ·rfl
     ·rw [List.getElem?_drop] at hx
      have h5 := h4 _ _ hx
      have h6 : (a'.add (k * K)).block = a'.block ∧ (a'.add (k * K)).off = a'.off + k * K := by
       unfold Addr.add
       split
       ·rename_i h7; exact ⟨rfl, by omega⟩
       ·exact ⟨rfl, rfl⟩
      rw [h6.1, h6.2]
      rwa [show a'.off + k * K + i * K = a'.off + (k + i) * K by rw [Nat.add_mul]; omega]
theorem yieldsIf_slice {ops : Array Oper} {S : World → Prop} {op : Oper} {a : Act} (hw : Region.wanted op (yielded ops a.tmps) = true) (t : TypeId) (x : Operand) (lo hi : Option Operand) (ho : op.op = .slice t x lo hi none) (v : Value)
  (h : ∀ w, (Instr.sliceAt t (a.eval x) (lo.map a.eval) (hi.map a.eval) none).run P w = .ok v w) : YieldsIf P ops S op v a :=
 .inl ⟨hw, fun w _ => by
  unfold execOp
  simp only [ho, Sem.run_bind, Option.map_none, h w, Result.andThen_ok]; rfl⟩
end
/-- a part of a slice, in a plain region -/
theorem wpList_slice {P : Program} {ops : Array Oper} {rest : List Oper} {op : Oper} {a : Act} {w : World} {Q : Exit → Act → World → Prop} (hgd : op.guard = none) (t : TypeId) (x : Operand) (lo hi : Option Operand) (ho : op.op = .slice t x lo hi none) (v : Value)
  (h : ∀ w, (Instr.sliceAt t (a.eval x) (lo.map a.eval) (hi.map a.eval) none).run P w = .ok v w) (hk : wpList P ops Q rest (a.put op.dst v) w) : wpList P ops Q (op :: rest) a w :=
 wpList_yield hgd v (by
  unfold execOp
  simp only [ho, Sem.run_bind, Option.map_none, h w, Result.andThen_ok]; rfl) hk
end Go.Proofs.YtempicociampoaaGreatDoor
namespace Go.Proofs.YtempicociampoaaGreatDoor
open Go.RowKit Go.Shelf Go.Lib

/-- vs laid over xs from o on -/
def setG : List Value → Nat → List Value → List Value
 | xs, _, [] => xs
 | xs, o, v :: r => setG (xs.set o v) (o + 1) r
theorem own_setG {e : TypeId} {base size g n cap : Nat} : ∀ (vs xs : List Value) (o : Nat) (w : World), w.ownsRow base e size (.slice (some ⟨g, 0, none⟩) n cap) n xs → (w.setCells g o vs).ownsRow base e size (.slice (some ⟨g, 0, none⟩) n cap) n (setG xs o vs)
 | [], _, _, _, h => h
 | v :: r, xs, o, _w, h => own_setG r (xs.set o v) (o + 1) _ (h.stored o v).1
theorem below_setG {n₀ g : Nat} (hg : n₀ ≤ g) {w : World} : ∀ (vs : List Value) (o : Nat) (W : World), Below n₀ w W → Below n₀ w (W.setCells g o vs)
 | [], _, _, h => h
 | v :: r, o, _W, h => below_setG hg r (o + 1) _ (h.setCell (p := ⟨g, o, none⟩) hg v)
theorem setG_skip (A : List Value) : ∀ (vs X : List Value) (o : Nat), setG (A ++ X) (A.length + o) vs = A ++ setG X o vs
 | [], _, _ => rfl
 | v :: r, X, o => by
  unfold setG
  rw [List.set_append_right _ _ (by omega), show A.length + o - A.length = o by omega, Nat.add_assoc]
  exact setG_skip A r (X.set o v) (o + 1)
theorem setG_here : ∀ (vs mid post : List Value), vs.length = mid.length → setG (mid ++ post) 0 vs = vs ++ post
 | [], mid, post, h => by
  obtain rfl := List.eq_nil_of_length_eq_zero h.symm; rfl
 | v :: r, [], post, h => by cases h
 | v :: r, m :: mid, post, h => by
  unfold setG
  have h9 := setG_skip [v] r (mid ++ post) 0
  simp only [List.cons_append, List.set_cons_zero, List.nil_append, List.length_singleton] at h9 ⊢
  rw [show 0 + 1 = 1 + 0 from rfl, h9, setG_here r mid post (by simpa using h)]
section
variable {α : Type} {enc : α → List Value} {K : Nat}
theorem flat_setG (hK : ∀ x, (enc x).length = K) (e : α) : ∀ {l : List α} {i : Nat}, i < l.length → setG (l.flatMap enc) (i * K) (enc e) = (l.set i e).flatMap enc
 | [], _, h => absurd h (Nat.not_lt_zero _)
 | a :: t, 0, _ => by
  rw [List.flatMap_cons, List.set_cons_zero, List.flatMap_cons, Nat.zero_mul]
  exact setG_here _ _ _ (by rw [hK, hK])
 | a :: t, i + 1, h => by
  rw [List.flatMap_cons, List.set_cons_succ, List.flatMap_cons, show (i + 1) * K = (enc a).length + i * K by rw [hK, Nat.add_mul]; omega, setG_skip]
  rw [flat_setG hK e (by simpa using h)]
/-- row i of an owned slice is set -/
theorem own_row {W : World} {base g n c i : Nat} {e : TypeId} {l : List α} (hK : ∀ x, (enc x).length = K) (h : W.ownsRow base e K (.slice (some ⟨g, 0, none⟩) n c) n (l.flatMap enc)) (hi : i < l.length) (x : α) :
  (W.setCells g (i * K) (enc x)).ownsRow base e K (.slice (some ⟨g, 0, none⟩) n c) n ((l.set i x).flatMap enc) := by
 have := own_setG (enc x) _ (i * K) W h
 rwa [flat_setG hK x hi] at this
end
/-- a found way as it lies: its breaks, total, overfull lines, whether there is one -/
def enc4 (r : Value × Int × Int × Bool) : List Value := [r.1, .int .i64 r.2.1, .int .i64 r.2.2.1, .bool r.2.2.2]
def RowOk (W : World) (g : Nat) (r : Value × Int × Int × Bool) (c : Option Wy) : Prop := match c with
 | none => r = (.slice none 0 0, 0, 0, false)
 | some w => r.2 = (w.tot, w.ov, true) ∧ Sl W 1 encI r.1 w.br ∧ ∀ a n m, r.1 = .slice (some a) n m → g < a.block
theorem RowOk.kept {W W' : World} {g : Nat} {r : Value × Int × Int × Bool} {c : Option Wy} (h : RowOk W g r c) (hb : Below W.heap.size W W') : RowOk W' g r c := by
 cases c with
 | none => exact h
 | some w => exact ⟨h.1, (Kept.of_below hb 0).sl h.2.1, h.2.2⟩
/-- what is found while place k + 1 is tried, the first i places behind it -/
def curF (l : List It) (wd tol : Int) (all : Bool) (pl : List Int) (k i j : Nat) : Option Wy :=
 if j ≤ k then (foundW l wd tol all pl k).getD j none else if j = k + 1 then foldW l wd tol all pl (foundW l wd tol all pl k) (pl.getD (k + 1) 0).toNat i else none
theorem curF_low {l : List It} {wd tol : Int} {all : Bool} {pl : List Int} {k i j : Nat} (h : j ≤ k) : curF l wd tol all pl k i j = (foundW l wd tol all pl k).getD j none := if_pos h
theorem curF_at (l : List It) (wd tol : Int) (all : Bool) (pl : List Int) (k i : Nat) : curF l wd tol all pl k i (k + 1) = foldW l wd tol all pl (foundW l wd tol all pl k) (pl.getD (k + 1) 0).toNat i := by
 unfold curF; rw [if_neg (by omega), if_pos rfl]
theorem curF_off {l : List It} {wd tol : Int} {all : Bool} {pl : List Int} {k i i' j : Nat} (h : j ≠ k + 1) : curF l wd tol all pl k i j = curF l wd tol all pl k i' j := by
 unfold curF
 split
 ·rfl
 ·simp only
theorem curF_next (l : List It) (wd tol : Int) (all : Bool) (pl : List Int) (k j : Nat) : curF l wd tol all pl (k + 1) 0 j = curF l wd tol all pl k (k + 1) j := by
 have hl := found_len l wd tol all pl k
 unfold curF
 by_cases h : j ≤ k
 ·rw [if_pos (by omega), if_pos h, foundW, List.getD_eq_getElem?_getD, List.getElem?_append_left (by omega), ← List.getD_eq_getElem?_getD]
 ·by_cases h2 : j = k + 1
  ·subst h2
   rw [if_pos (Nat.le_refl _), if_neg (by omega), if_pos rfl, foundW, List.getD_eq_getElem?_getD, List.getElem?_append_right (by omega), hl, Nat.sub_self]; rfl
  ·rw [if_neg (by omega), if_neg h, if_neg h2]
   split <;> rfl
theorem curF_step (l : List It) (wd tol : Int) (all : Bool) (pl : List Int) (k i : Nat) (hi : i ≤ k) :
  curF l wd tol all pl k (i + 1) (k + 1) = tryW l wd tol all (pl.getD i 0) (pl.getD (k + 1) 0).toNat (curF l wd tol all pl k i i) (curF l wd tol all pl k i (k + 1)) := by
 rw [curF_at, curF_at, foldW, curF_low hi]
theorem curF_zero (l : List It) (wd tol : Int) (all : Bool) (pl : List Int) (j : Nat) : curF l wd tol all pl 0 0 j = if j = 0 then some ⟨[], 0, 0⟩ else none := by
 unfold curF
 by_cases h : j = 0
 ·subst h; rfl
 ·rw [if_neg (by omega), if_neg h]
  split <;> rfl
theorem curF_bd {l : List It} {wd tol : Int} {all : Bool} {pl : List Int} {k i j : Nat} {v : Wy} (h : curF l wd tol all pl k i j = some v) : v.bd (k + 1) := by
 unfold curF at h
 split at h
 ·exact Wy.bd_mono (found_bd l wd tol all pl k j v (fs_get h)) (by omega)
 ·split at h
  ·exact fold_bd (found_bd l wd tol all pl k) i v h
  ·cases h
end Go.Proofs.YtempicociampoaaGreatDoor
namespace Go.Proofs.YtempicociampoaaGreatDoor
open Go.RowKit Go.Shelf Go.Lib

theorem infoN_parts : ∃ i0, Tryz.prog.info? 3 = some i0 ∧ i0.zero = some (.int .i64 0) ∧ i0.size = 1 ∧ i0.bytes = 8 := by
 have h : (Tryz.prog.info? 3).map (fun i => (i.zero, i.size, i.bytes)) = some (some (.int .i64 0), 1, 8) := by kernel_rfl
 obtain ⟨i0, h1, h2⟩ := Option.map_eq_some_iff.1 h
 simp only [Prod.mk.injEq] at h2
 exact ⟨i0, h1, h2.1, h2.2.1, h2.2.2⟩
set_option maxHeartbeats 400000 in
theorem nan_any (x : Int) (w : World) : Calls Tryz.prog 122 #[.int .i64 x] w fun e w' => e = .returned (.bool false) ∧ w' = w := by
 go_enter Tryz.func122, Tryz.ntmps122
 go_wp2_with (fail)
 go_ret
 exact ⟨by simp, rfl⟩
set_option maxHeartbeats 400000 in
theorem ccmp_any (x y : Int) (w : World) : Calls Tryz.prog 112 #[.int .i64 x, .int .i64 y] w fun e w' => e = .returned (.int .i64 (if x < y then -1 else if y < x then 1 else 0)) ∧ w' = w := by
 have n1 := hid (fun W => nan_any x W)
 have n2 := hid (fun W => nan_any y W)
 obtain ⟨r, hr⟩ : ∃ r : Int, (if x < y then -1 else if y < x then 1 else 0) = r := ⟨_, rfl⟩
 rw [hr]
 go_enter Tryz.func112, Tryz.ntmps112
 go_wp2_with (fail)
 refine (n1.out _).mono ?_
 rintro e w1 ⟨rfl, rfl⟩
 go_wp2_with (fail)
 refine (n2.out _).mono ?_
 rintro e w2 ⟨rfl, rfl⟩
 by_cases h1 : x < y
 ·rw [if_pos h1] at hr
  replace hr := hid hr
  go_wp2_with (fail)
  go_ret
  exact ⟨ret_int hr.out, rfl⟩
 ·rw [if_neg h1] at hr
  by_cases h2 : y < x
  ·rw [if_pos h2] at hr
   replace hr := hid hr
   go_wp2_with (fail)
   go_ret
   exact ⟨ret_int hr.out, rfl⟩
  ·rw [if_neg h2] at hr
   replace hr := hid hr
   go_wp2_with (fail)
   go_ret
   exact ⟨ret_int hr.out, rfl⟩
set_option maxRecDepth 100000 in
set_option maxHeartbeats 1000000 in
theorem Compare_any (a b : List Int) (va vb : Value) (w : World) (ha : Sl w 1 encI va a) (hb : Sl w 1 encI vb b) :
  Calls Tryz.prog 94 #[va, vb] w fun e w' => e = .returned (.int .i64 (cmpL a b)) ∧ w' = w := by
 obtain ⟨pa, ca, rfl, hla⟩ := ha.shape
 obtain ⟨pb, cb, rfl, hlb⟩ := hb.shape
 unfold maxLen at hla hlb
 have hla2 : a.length ≤ 9223372036854775807 := by omega
 obtain ⟨LA, hLA⟩ : ∃ x, a.length = x := ⟨_, rfl⟩
 obtain ⟨LB, hLB⟩ : ∃ x, b.length = x := ⟨_, rfl⟩
 obtain ⟨r, hr⟩ : ∃ x, cmpL a b = x := ⟨_, rfl⟩
 rw [hLA] at ha hla2 ⊢
 rw [hLB] at hb ⊢
 rw [hr]
 replace hLA := hid hLA
 replace hLB := hid hLB
 replace hr := hid hr
 replace ha := hid ha
 replace hb := hid hb
 clear hla hlb
 go_enter Tryz.func94, Tryz.ntmps94
 go_wp2_with (fail)
 go_loopw [11] (fun iv wr => ∃ k : Nat, k ≤ LA ∧ iv = .int .i64 k ∧ cmpL (a.drop k) (b.drop k) = r ∧ wr = w) (fun iv _ => LA - (RowKit.intOf iv).toNat)
 case atStart => exact ⟨0, Nat.zero_le _, rfl, hr.out, rfl⟩
 case round =>
  obtain ⟨k, hk, rfl, hc, rfl⟩ := hrel
  by_cases hka : k < LA
  ·have hkI : (k : Int) < (LA : Int) := by omega
   obtain ⟨x, hx⟩ : ∃ x, a[k]? = some x := ⟨_, List.getElem?_eq_getElem (by rw [hLA.out]; exact hka)⟩
   obtain ⟨ba, oa, c1, e1, -, -, h1⟩ := ha.out.open (by rintro rfl; simp at hx)
   obtain ⟨rfl, -, rfl⟩ := Value.slice.inj e1
   have cx := rangeAt_one (h1 k x hx)
   rw [Nat.mul_one] at cx
   clear e1 h1
   by_cases hkb : k < LB
   ·have hkJ : (k : Int) < (LB : Int) := by omega
    obtain ⟨y, hy⟩ : ∃ y, b[k]? = some y := ⟨_, List.getElem?_eq_getElem (by rw [hLB.out]; exact hkb)⟩
    obtain ⟨bb, ob, c2, e2, -, -, h2⟩ := hb.out.open (by rintro rfl; simp at hy)
    obtain ⟨rfl, -, rfl⟩ := Value.slice.inj e2
    have cy := rangeAt_one (h2 k y hy)
    rw [Nat.mul_one] at cy
    rw [cmpL_at hx hy] at hc
    have cC := hid (fun W => ccmp_any x y W)
    obtain ⟨q, hq⟩ : ∃ q : Int, (if x < y then -1 else if y < x then 1 else 0) = q := ⟨_, rfl⟩
    rw [hq] at cC
    clear e2 h2 hx hy
    by_cases hq0 : q = 0
    ·subst hq0
     have hn : cmpL (a.drop (k + 1)) (b.drop (k + 1)) = r := by
      split at hq
      ·omega
      ·rename_i h3
       rw [if_neg h3] at hc
       split at hq
       ·omega
       ·rename_i h4
        rwa [if_neg h4] at hc
     replace hn := hid hn
     clear hc hq
     go_wp2_with (fail)
     refine (cC.out _).mono ?_
     rintro e w1 ⟨rfl, rfl⟩
     go_wp2_with (fail)
     exact ⟨⟨k + 1, by omega, by go_num, hn.out, trivial⟩, by simp [RowKit.intOf]; omega⟩
    ·have hn : q = r := by
      split at hq
      ·rename_i h3; rw [if_pos h3] at hc; omega
      ·rename_i h3
       rw [if_neg h3] at hc
       split at hq
       ·rename_i h4; rw [if_pos h4] at hc; omega
       ·omega
     have hqb : (q == 0) = false := by simpa using hq0
     clear hc hq
     subst hn
     go_wp2_with (fail)
     refine (cC.out _).mono ?_
     rintro e w1 ⟨rfl, rfl⟩
     go_wp2_with (fail)
     go_ret
     exact ⟨rfl, rfl⟩
   ·have hkJ : (LB : Int) ≤ (k : Int) := by omega
    rw [cmpL_long (by rw [hLA.out]; exact hka) (by rw [hLB.out]; omega)] at hc
    subst hc
    clear hx
    go_wp2_with (fail)
    go_ret
    exact ⟨rfl, rfl⟩
  ·obtain rfl : k = LA := by omega
   rw [cmpL_end (by rw [hLA.out]; exact Nat.le_refl _), hLB.out] at hc
   by_cases hl : k < LB
   ·have hlI : (k : Int) < (LB : Int) := by omega
    rw [if_pos hl] at hc
    subst hc
    go_wp2_with (fail)
    go_ret
    exact ⟨rfl, rfl⟩
   ·have hlI : ¬ (k : Int) < (LB : Int) := by omega
    rw [if_neg hl] at hc
    subst hc
    go_wp2_with (fail)
    go_ret
    exact ⟨rfl, rfl⟩
set_option maxRecDepth 100000 in
set_option maxHeartbeats 1000000 in
theorem cloneI_any (l : List Int) (v : Value) (w : World) (hs : Sl w 1 encI v l) (hn : l.length ≤ 1000000) :
  Calls Tryz.prog 93 #[v] w fun e w' => ∃ v', e = .returned v' ∧ w'.ownsRow w.heap.size 3 1 v' l.length (l.flatMap encI) ∧ Below w.heap.size w w' := by
 obtain ⟨i0, hi, hz0, hz1, hz2⟩ := infoN_parts
 have q22 : ∀ (W : World) (a : Option Addr) (n c n' c' : Nat), (binOp .eql 50 (.slice a n c) (.slice none n' c')).run Tryz.prog W = .ok (.bool a.isNone) W := fun W a n c n' c' => Lib.run_eql_slice_nil W _ _ a n c n' c' Tryz.underlying50
 rcases id hs with ⟨rfl, rfl⟩ | ⟨a, c, rfl, -⟩
 ·go_enter Tryz.func93, Tryz.ntmps93
  go_wp2_with (fail)
  go_ret
  exact ⟨_, rfl, World.ownsRow_nil _ _ _ _, Below.refl _ _⟩
 ·go_enter Tryz.func93, Tryz.ntmps93
  go_wp2_with (at_builtin; go_must (refine wpList_append_sl rfl _ _ 50 rfl w.heap.size 3 i0 (.int .i64 0) 1 8 Tryz.underlying50 hi hz0 hz1 hz2 rfl (by decide) _ _ _ rfl (World.ownsRow_made w #[] 0 (Nat.le_refl _) (Nat.zero_le _) rfl) encI _ l rfl ((Kept.alloc 0 w _).sl hs) (encI_enc l) (by unfold maxLen; omega) (by omega) (by simp) ?_; intro v1 w1 ho1 hg1 hn1))
  go_ret
  exact ⟨v1, rfl, by simpa using ho1, ((Below.refl _ w).alloc (Nat.le_refl _) _).grown hg1 (by simp) (by intro k hk; simp [Value.ownBlock, Act.eval] at hk; omega)⟩
/-- a way as it lies -/
def wayV (v : Value) (x : Wy) : Array Value := #[v, .int .i64 x.tot, .int .i64 x.ov]
set_option maxRecDepth 100000 in
set_option maxHeartbeats 1000000 in
theorem better_any (x y : Wy) (vx vy : Value) (w : World) (hx : Sl w 1 encI vx x.br) (hy : Sl w 1 encI vy y.br) :
  Calls Tryz.prog 70 #[.agg (wayV vx x), .agg (wayV vy y)] w fun e w' => e = .returned (.bool (betterW x y)) ∧ Below w.heap.size w w' := by
 obtain ⟨n₀, hn₀⟩ : ∃ n, w.heap.size = n := ⟨_, rfl⟩
 obtain ⟨px, cx, rfl, -⟩ := hx.shape
 obtain ⟨py, cy, rfl, -⟩ := hy.shape
 unfold wayV
 have cC := hid (fun (W : World) (h : Below w.heap.size w W) => Compare_any x.br y.br _ _ W ((Kept.of_below h 0).sl hx) ((Kept.of_below h 0).sl hy))
 have hB := hid (((Below.refl w.heap.size w).alloc (Nat.le_refl _) (.cells #[.slice px x.br.length cx, .int .i64 x.tot, .int .i64 x.ov] 52)).alloc (by simp) (.cells #[.slice py y.br.length cy, .int .i64 y.tot, .int .i64 y.ov] 52))
 obtain ⟨r, hr⟩ : ∃ r, betterW x y = r := ⟨_, rfl⟩
 have hr2 : (if x.tot = y.tot then lessI x.br y.br else decide (x.tot < y.tot)) = r := hr
 rw [lessI_cmp] at hr2
 rw [hr]
 clear hr
 by_cases he : x.tot = y.tot
 ·rw [if_pos he] at hr2
  rw [he] at hB ⊢
  replace hr2 := hid hr2
  clear he
  go_enter Tryz.func70, Tryz.ntmps70
  go_wp2_with (fail)
  refine (cC.out _ hB.out).mono ?_
  rintro e w1 ⟨rfl, rfl⟩
  obtain ⟨q, hq⟩ : ∃ q, cmpL x.br y.br = q := ⟨_, rfl⟩
  have hr3 := hr2.out
  rw [hq] at hr3 ⊢
  clear hq hr2
  subst hr3
  go_wp2_with (fail)
  go_ret
  exact ⟨rfl, hn₀ ▸ hB.out⟩
 ·rw [if_neg he] at hr2
  have heb : (x.tot == y.tot) = false := by simpa using he
  subst hr2
  go_enter Tryz.func70, Tryz.ntmps70
  go_wp2_with (fail)
  go_ret
  exact ⟨rfl, hn₀ ▸ hB.out⟩
end Go.Proofs.YtempicociampoaaGreatDoor
