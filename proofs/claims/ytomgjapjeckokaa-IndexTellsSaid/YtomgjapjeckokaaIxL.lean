/- The walk of bitmap's With (printed by gen_ixl.py). -/
import Derived.Test.YtomgjapjeckokaaIxK
import Derived.Deep.DeepCutAuto
namespace Go.Proofs.Ytomgjapjeckokaa
open Go.RowKit Go.Shelf Go.Lib

theorem results_rowtmp {P : Program} {fn : Func} {p q : Tmp} {t1 : TypeId} (h : fn.results = #[.cell p t1, .tmp q]) (tmps : Array Value) (w : World) (g1 : Nat) (t : TypeId) (cs : Array Value) (v2 : Value) (d1 : TypeDesc)
    (e1 : tmps.getD p undef = .pointer (some ⟨g1, 0, none⟩)) (e2 : tmps.getD q undef = v2) (h1 : w.heap[g1]? = some (.cells cs t (0, 0)))
    (hu1 : P.underlying t1 = some d1) (hd1 : TypeDesc.isRow d1 = true) (hi : (P.info? t1).map (·.size) = some cs.size) :
    (results fn tmps).run P w = .ok (.tuple #[.agg cs, v2]) w := by
  have e1' : tmps[p]?.getD undef = .pointer (some ⟨g1, 0, none⟩) := by simpa using e1
  have e2' : tmps[q]?.getD undef = v2 := by simpa using e2
  have hl := run_loadVar_row (P := P) w g1 t t1 cs (0, 0) d1 h1 hu1 (by cases d1 <;> first | rfl | cases hd1) hi
  simp [results, h, e1', e2', asAddr, hl]
theorem outRowTmp {P : Program} {fn : Func} {ty t : TypeId} {p q : Tmp} {n₀ : Nat} {W : World} {a : Act} {R : Ending → World → Prop} {cs : Array Value} {v2 : Value} (hf : fn.results = #[.cell p ty, .tmp q])
    (h2 : W.heap[n₀]? = some (.cells cs t (0, 0))) (e1 : a.tmps.getD p undef = .pointer (some ⟨n₀, 0, none⟩)) (e2 : a.tmps.getD q undef = v2) (hd : a.defers = [])
    (hk : (P.underlying ty).map TypeDesc.isRow = some true) (hi : (P.info? ty).map (·.size) = some cs.size) (hR : R (.returned (.tuple #[.agg cs, v2])) W) : bodyPost P fn R .ret a W := by
  obtain ⟨d, hu, hr⟩ := Option.map_eq_some_iff.1 hk
  exact bodyPost_ret (results_rowtmp hf _ _ n₀ t cs v2 d e1 e2 h2 hu hr hi) hd hR

def setB (v : UInt8) (k : Nat) : UInt8 := UInt8.ofNat (v.toNat ||| 2 ^ k)
def setM (m : List UInt8) (b : Nat) : List UInt8 := m.set (b / 8) (setB (m.getD (b / 8) 0) (b % 8))
theorem setM_len (m : List UInt8) (b : Nat) : (setM m b).length = m.length := by simp [setM]
/-- the bitmap with j blocks more, if none was used -/
def withF (m : List UInt8) (f : Nat) : Nat → Option (List UInt8)
  | 0 => some m
  | j + 1 => (withF m f j).bind fun m' => if hasM m' ((f + j : Nat) : Int) = true then none else some (setM m' (f + j))
theorem withF_len {m : List UInt8} {f : Nat} : ∀ {j : Nat} {r : List UInt8}, withF m f j = some r → r.length = m.length
  | 0, r, h => by rw [withF] at h; cases h; rfl
  | j + 1, r, h => by
    rw [withF] at h
    obtain ⟨m', h1, h2⟩ := Option.bind_eq_some_iff.1 h
    split at h2
    · cases h2
    · cases h2; rw [setM_len]; exact withF_len h1
theorem withF_stop {m : List UInt8} {f j n : Nat} (h : withF m f j = none) (hn : j ≤ n) : withF m f n = none := by
  induction n with
  | zero => obtain rfl : j = 0 := by omega
            exact h
  | succ n ih =>
    by_cases e : j = n + 1
    · rw [← e]; exact h
    · rw [withF, ih (by omega)]; rfl
def zer16 : List UInt8 := List.replicate 16 0
/-- what With answers: a bitmap, an error's number -/
def withM (m : List UInt8) (f n : Int) : List UInt8 × Int :=
  if n < 1 ∨ f < 0 ∨ 128 ≤ f ∨ 128 - f < n then (zer16, 1) else match withF m f.toNat n.toNat with | some r => (r, 0) | none => (zer16, 11)
theorem or_bit (v : UInt8) (k : Nat) (h : k < 8) : bits .or .u8 (v.toNat : Int) ((2 ^ k : Nat) : Int) = ((setB v k).toNat : Int) := by
  have key : ∀ x, x < 256 → ∀ k, k < 8 → bits .or .u8 ((x : Nat) : Int) ((2 ^ k : Nat) : Int) = ((UInt8.ofNat (x ||| 2 ^ k)).toNat : Int) := by decide +kernel
  exact key _ v.toNat_lt k h
theorem zer16_row : rowU zer16 = #[.int .u8 0, .int .u8 0, .int .u8 0, .int .u8 0, .int .u8 0, .int .u8 0, .int .u8 0, .int .u8 0, .int .u8 0, .int .u8 0, .int .u8 0, .int .u8 0, .int .u8 0, .int .u8 0, .int .u8 0, .int .u8 0] := rfl

set_option maxRecDepth 100000 in
set_option maxHeartbeats 2000000 in
theorem With_any (m : List UInt8) (f n : Int) (w : World) (hm : m.length = 16) (hf1 : -9223372036854775808 ≤ f) (hf2 : f ≤ 9223372036854775807) (hn1 : -9223372036854775808 ≤ n) (hn2 : n ≤ 9223372036854775807) :
    Calls Try.prog 36 #[.agg (rowU m), .int .i64 f, .int .i64 n] w fun e w' => e = .returned (.tuple #[.agg (rowU (withM m f n).1), .int .i64 (withM m f n).2]) ∧ Below w.heap.size w w' := by
  obtain ⟨n₀, hn₀⟩ : ∃ n, w.heap.size = n := ⟨_, rfl⟩
  have g0 := World.alloc_heap_new w (.cells (rowU m) 75)
  have hz : (w.alloc (.cells (rowU m) 75)).heap.size = n₀ + 1 := by rw [World.size_alloc, hn₀]
  have g1 := World.alloc_heap_new (w.alloc (.cells (rowU m) 75)) (.cells #[.int .u8 0, .int .u8 0, .int .u8 0, .int .u8 0, .int .u8 0, .int .u8 0, .int .u8 0, .int .u8 0, .int .u8 0, .int .u8 0, .int .u8 0, .int .u8 0, .int .u8 0, .int .u8 0, .int .u8 0, .int .u8 0] 75)
  rw [hz] at g1
  have g0' := (Kept.alloc 0 _ (.cells #[.int .u8 0, .int .u8 0, .int .u8 0, .int .u8 0, .int .u8 0, .int .u8 0, .int .u8 0, .int .u8 0, .int .u8 0, .int .u8 0, .int .u8 0, .int .u8 0, .int .u8 0, .int .u8 0, .int .u8 0, .int .u8 0] 75)).same _ _ g0 (.inl rfl)
  rw [hn₀] at g0'
  have B0 : Below n₀ w ((w.alloc (.cells (rowU m) 75)).alloc (.cells #[.int .u8 0, .int .u8 0, .int .u8 0, .int .u8 0, .int .u8 0, .int .u8 0, .int .u8 0, .int .u8 0, .int .u8 0, .int .u8 0, .int .u8 0, .int .u8 0, .int .u8 0, .int .u8 0, .int .u8 0, .int .u8 0] 75)) := by rw [← hn₀]; exact ((Below.refl _ w).alloc (Nat.le_refl _) _).alloc (by simp) _
  clear g0 hz
  obtain ⟨W1, hW1⟩ : ∃ W : World, W = (w.alloc (.cells (rowU m) 75)).alloc (.cells #[.int .u8 0, .int .u8 0, .int .u8 0, .int .u8 0, .int .u8 0, .int .u8 0, .int .u8 0, .int .u8 0, .int .u8 0, .int .u8 0, .int .u8 0, .int .u8 0, .int .u8 0, .int .u8 0, .int .u8 0, .int .u8 0] 75) := ⟨_, rfl⟩
  rw [← hW1] at g1 g0' B0
  by_cases hbad : n < 1 ∨ f < 0 ∨ 128 ≤ f ∨ 128 - f < n
  · have e : withM m f n = (zer16, 1) := by unfold withM; rw [if_pos hbad]
    rw [e]
    have ht1 : W1.there (n₀ + 1) 0 (rowU zer16).size := there_blk g1 rfl
    have u1 := (Upd.refl g1).setCells (rowU zer16).toList rfl
    have BZ := u1.below B0 (by omega)
    have u2 := u1.here
    rw [Array.toArray_toList] at u2
    have hcs : n < 1 ∨ (1 ≤ n ∧ f < 0) ∨ (1 ≤ n ∧ 0 ≤ f ∧ 128 ≤ f) ∨ (1 ≤ n ∧ 0 ≤ f ∧ f < 128 ∧ 128 - f < n) := by omega
    clear hbad e hf1 hf2 hn1 hn2 u1
    replace u2 := hid u2
    replace BZ := hid BZ
    rcases hcs with h1 | ⟨h1, h2⟩ | ⟨h1, h2, h3⟩ | ⟨h1, h2, h3, h4⟩
    all_goals
      try have e4 : IntKind.i64.wrap (128 - f) = 128 - f := by rw [IntKind.wrap_i64]; omega
      go_enter Try.func36, Try.ntmps36
      go_upto_region 1 with (fail)
      rw [← hW1]
      clear hW1
      go_wp2_with (refine wpList_store_mid rfl 75 _ _ rfl (n₀ + 1) 0 (rowU zer16) rfl rfl ht1 (by kernel_rfl) (one_rowU _) ?_)
      exact outRowTmp (ty := 75) rfl u2.out rfl rfl rfl (by kernel_rfl) (by rw [rowU_size]; kernel_rfl) ⟨rfl, hn₀ ▸ BZ.out⟩
  · have hr : withM m f n = match withF m f.toNat n.toNat with | some r => (r, 0) | none => (zer16, 11) := by unfold withM; rw [if_neg hbad]
    obtain ⟨res, hres⟩ : ∃ p, withM m f n = p := ⟨_, rfl⟩
    rw [hres] at hr ⊢
    clear hres
    obtain ⟨fn, rfl⟩ : ∃ k : Nat, f = k := ⟨f.toNat, by omega⟩
    obtain ⟨nn, rfl⟩ : ∃ k : Nat, n = k := ⟨n.toNat, by omega⟩
    rw [Int.toNat_natCast, Int.toNat_natCast] at hr
    replace hr := hid hr
    have hb1 : 1 ≤ nn := by omega
    have hb2 : fn + nn ≤ 128 := by omega
    have e1 : ¬ (nn : Int) < 1 := by omega
    have e2 : ¬ (fn : Int) < 0 := by omega
    have e3 : ¬ (128 : Int) ≤ (fn : Int) := by omega
    have e4 : IntKind.i64.wrap (128 - (fn : Int)) = 128 - (fn : Int) := by rw [IntKind.wrap_i64]; omega
    have e5 : ¬ 128 - (fn : Int) < (nn : Int) := by omega
    have e6 : IntKind.i64.wrap ((fn : Int) + (nn : Int)) = (fn : Int) + (nn : Int) := by rw [IntKind.wrap_i64]; omega
    clear hbad hf1 hf2 hn1 hn2
    go_enter Try.func36, Try.ntmps36
    go_upto_region 1 with (fail)
    rw [← hW1]
    clear hW1
    go_wp2_with (fail)
    go_loopw [8] (fun iv wr => ∃ (j : Nat) (r : List UInt8), j ≤ nn ∧ withF m fn j = some r ∧ iv = .int .i64 ((fn + j : Nat) : Int) ∧ wr.heap[n₀]? = some (.cells (rowU r) 75 (0, 0)) ∧ wr.heap[n₀ + 1]? = some (.cells #[.int .u8 0, .int .u8 0, .int .u8 0, .int .u8 0, .int .u8 0, .int .u8 0, .int .u8 0, .int .u8 0, .int .u8 0, .int .u8 0, .int .u8 0, .int .u8 0, .int .u8 0, .int .u8 0, .int .u8 0, .int .u8 0] 75 (0, 0)) ∧ Below n₀ w wr) (fun iv _ => 128 - (RowKit.intOf iv).toNat)
    case atStart => exact ⟨0, m, Nat.zero_le _, rfl, by rw [Nat.add_zero], g0', g1, B0⟩
    case round =>
      obtain ⟨j, r, hj, hw, rfl, q0, q1, qB⟩ := hrel
      clear g0' g1 B0
      have hr16 : r.length = 16 := (withF_len hw).trans hm
      have hrg : wr.rangeAt n₀ 0 (r.map fun b => Value.int .u8 b.toNat) := range_blk q0
      have hi6 : (Try.prog.info? 75).map (·.size) = some (r.map fun b => Value.int .u8 (b.toNat : Int)).length := by rw [List.length_map, hr16]; kernel_rfl
      obtain ⟨b, hb⟩ : ∃ b, fn + j = b := ⟨_, rfl⟩
      rw [hb]
      by_cases hjn : j < nn
      · have hbI : (b : Int) < (fn : Int) + (nn : Int) := by omega
        have cH := hid (Has_any r (b : Int) wr hr16)
        obtain ⟨hb', hhb⟩ : ∃ x, hasM r (b : Int) = x := ⟨_, rfl⟩
        rw [hhb] at cH
        have hnext : withF m fn (j + 1) = if hb' = true then none else some (setM r b) := by rw [withF, hw, Option.bind_some, hb, hhb]
        clear hhb hw
        replace hnext := hid hnext
        replace hb := hid hb
        go_wp2_with (refine wpList_load_mid rfl 75 _ rfl n₀ 0 rfl (r.map fun b => Value.int .u8 b.toNat) _ hrg Try.underlying75 rfl hi6 ?_)
        refine cH.out.mono ?_
        rintro e w9 ⟨rfl, b9⟩
        have q0' := (Kept.of_below b9 0).same _ _ q0 (.inl rfl)
        have q1' := (Kept.of_below b9 0).same _ _ q1 (.inl rfl)
        have qB' := qB.trans (b9.mono (by have := qB.size; omega))
        clear cH q0 q1 qB b9 hrg
        cases hb' with
        | true =>
          have hnone : withF m fn nn = none := withF_stop (j := j + 1) (by rw [hnext.out]; rfl) (by omega)
          have hr9 : res = (zer16, 11) := by rw [hr.out, hnone]
          clear hnone
          replace hr9 := hid hr9
          have ht1 : w9.there (n₀ + 1) 0 (rowU zer16).size := there_blk q1' rfl
          have u1 := (Upd.refl q1').setCells (rowU zer16).toList rfl
          have BZ := u1.below qB' (by omega)
          have u2 := u1.here
          rw [Array.toArray_toList] at u2
          clear u1
          replace u2 := hid u2
          replace BZ := hid BZ
          go_wp2_with (refine wpList_store_mid rfl 75 _ _ rfl (n₀ + 1) 0 (rowU zer16) rfl rfl ht1 (by kernel_rfl) (one_rowU _) ?_)
          exact outRowTmp (ty := 75) rfl u2.out rfl rfl rfl (by kernel_rfl) (by rw [rowU_size]; kernel_rfl) ⟨by first | (rw [hr9.out]; done) | (rw [hr9.out]; rfl), hn₀ ▸ BZ.out⟩
        | false =>
          obtain ⟨q, k, hk, hbq⟩ : ∃ q k : Nat, k < 8 ∧ b = 8 * q + k := ⟨b / 8, b % 8, by omega, by omega⟩
          have hb128 : b < 128 := by have := hb.out; omega
          have hq : q < 16 := by omega
          obtain ⟨v, hv⟩ : ∃ v, r[q]? = some v := ⟨_, List.getElem?_eq_getElem (by omega)⟩
          obtain ⟨rm, hrm0⟩ : ∃ x, setM r b = x := ⟨_, rfl⟩
          have hrm : withF m fn (j + 1) = some rm := by rw [hnext.out, ← hrm0]; rfl
          have hst : r.set q (setB v k) = rm := by
            rw [← hrm0]; unfold setM
            rw [show b / 8 = q by omega, show b % 8 = k by omega, List.getD_eq_getElem?_getD, hv]; rfl
          have hd : ((b : Int)).tdiv 8 = (q : Int) := by rw [Int.tdiv_eq_ediv_of_nonneg (by omega)]; omega
          have hr : ((b : Int)).tmod 8 = (k : Int) := by rw [Int.tmod_eq_emod_of_nonneg (by omega)]; omega
          have hwq : IntKind.i64.wrap (q : Int) = (q : Int) := by rw [IntKind.wrap_i64]; omega
          have hqI : (q : Int) < 16 := by omega
          have hb1w : IntKind.i64.wrap ((b : Int) + 1) = (b : Int) + 1 := by rw [IntKind.wrap_i64]; omega
          have c1 : w9.cell? ⟨n₀, q, none⟩ = some (.int .u8 v.toNat) := cell_blk q0' (rowU_at hv)
          have f1 := frozen_blk q0' (i := q)
          have hbn : b + 1 = fn + (j + 1) := by have := hb.out; omega
          have h7 : k = 0 ∨ k = 1 ∨ k = 2 ∨ k = 3 ∨ k = 4 ∨ k = 5 ∨ k = 6 ∨ k = 7 := by omega
          clear hbq hrm0 hv hk hr16 hi6
          replace hrm := hid hrm
          replace hbn := hid hbn
          rcases h7 with rfl | rfl | rfl | rfl | rfl | rfl | rfl | rfl
          · have ho : bits .or .u8 (v.toNat : Int) 1 = ((setB v 0).toNat : Int) := or_bit v 0 (by decide)
            have q3 := setCell_blk (i := q) (x := .int .u8 (bits .or .u8 (v.toNat : Int) 1)) q0'
            have hro : (rowU r).setIfInBounds q (.int .u8 (bits .or .u8 (v.toNat : Int) 1)) = rowU rm := by rw [ho, rowU_set, hst]
            rw [hro] at q3
            have q1'' := (setCell_off (b := n₀) (i := q) (x := .int .u8 (bits .or .u8 (v.toNat : Int) 1)) (show n₀ + 1 ≠ n₀ by omega)).trans q1'
            have qB'' := (qB'.drewN 1).setCell (p := ⟨n₀, q, none⟩) (show n₀ ≤ n₀ by omega) (.int .u8 (bits .or .u8 (v.toNat : Int) 1))
            clear hst hro ho q0' q1' qB'
            replace q3 := hid q3
            replace q1'' := hid q1''
            replace qB'' := hid qB''
            go_upto_region 8 with (fail)
            refine wp_region_any (by kernel_rfl) ?_
            try (change wpAny _ _ _ _ _ _ _ (World.drew _))
            refine wpAny_take (i := 0) (oi := ⟨some 38, _, _, _, _, _⟩) (v := ?_) rfl (by kernel_rfl) (by kernel_rfl) (by kernel_rfl) (fun _ _ _ h => h) (Or.inl ⟨by rfl, ?_⟩) ?_
            rotate_left
            · intro w; go_simp <;> with_reducible rfl
            simp only [Act.put, List.setIfInBounds_toArray, List.set_cons_zero, List.set_cons_succ]
            refine wpAny_take (i := 1) (oi := ⟨some 39, _, _, _, _, _⟩) (v := ?_) rfl (by kernel_rfl) (by kernel_rfl) (by kernel_rfl) (fun _ _ _ h => h) (Or.inl ⟨by rfl, ?_⟩) ?_
            rotate_left
            · intro w; go_simp <;> with_reducible rfl
            simp only [Act.put, List.setIfInBounds_toArray, List.set_cons_zero, List.set_cons_succ]
            refine wpAny_take (i := 2) (oi := ⟨some 40, _, _, _, _, _⟩) (v := ?_) rfl (by kernel_rfl) (by kernel_rfl) (by kernel_rfl) (fun _ _ _ h => h) (Or.inl ⟨by rfl, ?_⟩) ?_
            rotate_left
            · intro w; go_simp <;> with_reducible rfl
            simp only [Act.put, List.setIfInBounds_toArray, List.set_cons_zero, List.set_cons_succ]
            refine wpAny_take (i := 4) (oi := ⟨some 42, _, _, _, _, _⟩) (v := ?_) rfl (by kernel_rfl) (by kernel_rfl) (by kernel_rfl) (fun _ _ _ h => h) (Or.inl ⟨by rfl, ?_⟩) ?_
            rotate_left
            · intro w; go_simp <;> with_reducible rfl
            simp only [Act.put, List.setIfInBounds_toArray, List.set_cons_zero, List.set_cons_succ]
            refine wpAny_take (i := 5) (oi := ⟨some 43, _, _, _, _, _⟩) (v := ?_) rfl (by kernel_rfl) (by kernel_rfl) (by kernel_rfl) (fun _ _ _ h => h) (Or.inl ⟨by rfl, ?_⟩) ?_
            rotate_left
            · intro w; go_simp <;> with_reducible rfl
            simp only [Act.put, List.setIfInBounds_toArray, List.set_cons_zero, List.set_cons_succ]
            refine wpAny_take (i := 6) (oi := ⟨some 44, _, _, _, _, _⟩) (v := ?_) rfl (by kernel_rfl) (by kernel_rfl) (by kernel_rfl) (fun _ _ _ h => h) (Or.inl ⟨by rfl, ?_⟩) ?_
            rotate_left
            · intro w; go_simp <;> with_reducible rfl
            simp only [Act.put, List.setIfInBounds_toArray, List.set_cons_zero, List.set_cons_succ]
            refine wpAny_ready (rs := [3]) (by kernel_rfl) (by simp) ?_
            refine AllReady.cons rfl (fun K hK => ?_) AllReady.nil
            go_simp
            first | refine hK _ _ ?_ | refine ⟨trivial, hK _ _ ?_⟩ | refine ⟨fun _ _ => trivial, hK _ _ ?_⟩
            clear hK K
            refine wpAny_take (i := 7) (oi := ⟨some 45, _, _, _, _, _⟩) (v := ?_) rfl (by kernel_rfl) (by kernel_rfl) (by kernel_rfl) (fun _ _ _ h => h) (Or.inl ⟨by rfl, ?_⟩) ?_
            rotate_left
            · intro w; go_simp <;> with_reducible rfl
            simp only [Act.put, List.setIfInBounds_toArray, List.set_cons_zero, List.set_cons_succ]
            refine wpAny_take (i := 8) (oi := ⟨some 46, _, _, _, _, _⟩) (v := ?_) rfl (by kernel_rfl) (by kernel_rfl) (by kernel_rfl) (fun _ _ _ h => h) (Or.inl ⟨by rfl, ?_⟩) ?_
            rotate_left
            · intro w; go_simp <;> with_reducible rfl
            simp only [Act.put, List.setIfInBounds_toArray, List.set_cons_zero, List.set_cons_succ]
            refine wpAny_ready (rs := [9]) (by kernel_rfl) (by simp) ?_
            refine AllReady.cons rfl (fun K hK => ?_) AllReady.nil
            go_simp
            first | refine hK _ _ ?_ | refine ⟨trivial, hK _ _ ?_⟩ | refine ⟨fun _ _ => trivial, hK _ _ ?_⟩
            clear hK K
            refine wpAny_done (by kernel_rfl) ?_ _
            go_wp2_with (fail)
            refine ⟨?_, ?_⟩
            · first | exact ⟨j + 1, rm, by omega, by rw [hrm.out], by first | rw [hbn.out] | (rw [← hbn.out]; go_num), q3.out, q1''.out, qB''.out⟩ | ((repeat apply Exists.intro); refine ⟨?_, rfl⟩; exact ⟨j + 1, rm, by omega, by rw [hrm.out], by first | rw [hbn.out] | (rw [← hbn.out]; go_num), q3.out, q1''.out, qB''.out⟩)
            · simp [RowKit.intOf]; omega
          · have ho : bits .or .u8 (v.toNat : Int) 2 = ((setB v 1).toNat : Int) := or_bit v 1 (by decide)
            have q3 := setCell_blk (i := q) (x := .int .u8 (bits .or .u8 (v.toNat : Int) 2)) q0'
            have hro : (rowU r).setIfInBounds q (.int .u8 (bits .or .u8 (v.toNat : Int) 2)) = rowU rm := by rw [ho, rowU_set, hst]
            rw [hro] at q3
            have q1'' := (setCell_off (b := n₀) (i := q) (x := .int .u8 (bits .or .u8 (v.toNat : Int) 2)) (show n₀ + 1 ≠ n₀ by omega)).trans q1'
            have qB'' := (qB'.drewN 1).setCell (p := ⟨n₀, q, none⟩) (show n₀ ≤ n₀ by omega) (.int .u8 (bits .or .u8 (v.toNat : Int) 2))
            clear hst hro ho q0' q1' qB'
            replace q3 := hid q3
            replace q1'' := hid q1''
            replace qB'' := hid qB''
            go_upto_region 8 with (fail)
            refine wp_region_any (by kernel_rfl) ?_
            try (change wpAny _ _ _ _ _ _ _ (World.drew _))
            refine wpAny_take (i := 0) (oi := ⟨some 38, _, _, _, _, _⟩) (v := ?_) rfl (by kernel_rfl) (by kernel_rfl) (by kernel_rfl) (fun _ _ _ h => h) (Or.inl ⟨by rfl, ?_⟩) ?_
            rotate_left
            · intro w; go_simp <;> with_reducible rfl
            simp only [Act.put, List.setIfInBounds_toArray, List.set_cons_zero, List.set_cons_succ]
            refine wpAny_take (i := 1) (oi := ⟨some 39, _, _, _, _, _⟩) (v := ?_) rfl (by kernel_rfl) (by kernel_rfl) (by kernel_rfl) (fun _ _ _ h => h) (Or.inl ⟨by rfl, ?_⟩) ?_
            rotate_left
            · intro w; go_simp <;> with_reducible rfl
            simp only [Act.put, List.setIfInBounds_toArray, List.set_cons_zero, List.set_cons_succ]
            refine wpAny_take (i := 2) (oi := ⟨some 40, _, _, _, _, _⟩) (v := ?_) rfl (by kernel_rfl) (by kernel_rfl) (by kernel_rfl) (fun _ _ _ h => h) (Or.inl ⟨by rfl, ?_⟩) ?_
            rotate_left
            · intro w; go_simp <;> with_reducible rfl
            simp only [Act.put, List.setIfInBounds_toArray, List.set_cons_zero, List.set_cons_succ]
            refine wpAny_take (i := 4) (oi := ⟨some 42, _, _, _, _, _⟩) (v := ?_) rfl (by kernel_rfl) (by kernel_rfl) (by kernel_rfl) (fun _ _ _ h => h) (Or.inl ⟨by rfl, ?_⟩) ?_
            rotate_left
            · intro w; go_simp <;> with_reducible rfl
            simp only [Act.put, List.setIfInBounds_toArray, List.set_cons_zero, List.set_cons_succ]
            refine wpAny_take (i := 5) (oi := ⟨some 43, _, _, _, _, _⟩) (v := ?_) rfl (by kernel_rfl) (by kernel_rfl) (by kernel_rfl) (fun _ _ _ h => h) (Or.inl ⟨by rfl, ?_⟩) ?_
            rotate_left
            · intro w; go_simp <;> with_reducible rfl
            simp only [Act.put, List.setIfInBounds_toArray, List.set_cons_zero, List.set_cons_succ]
            refine wpAny_take (i := 6) (oi := ⟨some 44, _, _, _, _, _⟩) (v := ?_) rfl (by kernel_rfl) (by kernel_rfl) (by kernel_rfl) (fun _ _ _ h => h) (Or.inl ⟨by rfl, ?_⟩) ?_
            rotate_left
            · intro w; go_simp <;> with_reducible rfl
            simp only [Act.put, List.setIfInBounds_toArray, List.set_cons_zero, List.set_cons_succ]
            refine wpAny_ready (rs := [3]) (by kernel_rfl) (by simp) ?_
            refine AllReady.cons rfl (fun K hK => ?_) AllReady.nil
            go_simp
            first | refine hK _ _ ?_ | refine ⟨trivial, hK _ _ ?_⟩ | refine ⟨fun _ _ => trivial, hK _ _ ?_⟩
            clear hK K
            refine wpAny_take (i := 7) (oi := ⟨some 45, _, _, _, _, _⟩) (v := ?_) rfl (by kernel_rfl) (by kernel_rfl) (by kernel_rfl) (fun _ _ _ h => h) (Or.inl ⟨by rfl, ?_⟩) ?_
            rotate_left
            · intro w; go_simp <;> with_reducible rfl
            simp only [Act.put, List.setIfInBounds_toArray, List.set_cons_zero, List.set_cons_succ]
            refine wpAny_take (i := 8) (oi := ⟨some 46, _, _, _, _, _⟩) (v := ?_) rfl (by kernel_rfl) (by kernel_rfl) (by kernel_rfl) (fun _ _ _ h => h) (Or.inl ⟨by rfl, ?_⟩) ?_
            rotate_left
            · intro w; go_simp <;> with_reducible rfl
            simp only [Act.put, List.setIfInBounds_toArray, List.set_cons_zero, List.set_cons_succ]
            refine wpAny_ready (rs := [9]) (by kernel_rfl) (by simp) ?_
            refine AllReady.cons rfl (fun K hK => ?_) AllReady.nil
            go_simp
            first | refine hK _ _ ?_ | refine ⟨trivial, hK _ _ ?_⟩ | refine ⟨fun _ _ => trivial, hK _ _ ?_⟩
            clear hK K
            refine wpAny_done (by kernel_rfl) ?_ _
            go_wp2_with (fail)
            refine ⟨?_, ?_⟩
            · first | exact ⟨j + 1, rm, by omega, by rw [hrm.out], by first | rw [hbn.out] | (rw [← hbn.out]; go_num), q3.out, q1''.out, qB''.out⟩ | ((repeat apply Exists.intro); refine ⟨?_, rfl⟩; exact ⟨j + 1, rm, by omega, by rw [hrm.out], by first | rw [hbn.out] | (rw [← hbn.out]; go_num), q3.out, q1''.out, qB''.out⟩)
            · simp [RowKit.intOf]; omega
          · have ho : bits .or .u8 (v.toNat : Int) 4 = ((setB v 2).toNat : Int) := or_bit v 2 (by decide)
            have q3 := setCell_blk (i := q) (x := .int .u8 (bits .or .u8 (v.toNat : Int) 4)) q0'
            have hro : (rowU r).setIfInBounds q (.int .u8 (bits .or .u8 (v.toNat : Int) 4)) = rowU rm := by rw [ho, rowU_set, hst]
            rw [hro] at q3
            have q1'' := (setCell_off (b := n₀) (i := q) (x := .int .u8 (bits .or .u8 (v.toNat : Int) 4)) (show n₀ + 1 ≠ n₀ by omega)).trans q1'
            have qB'' := (qB'.drewN 1).setCell (p := ⟨n₀, q, none⟩) (show n₀ ≤ n₀ by omega) (.int .u8 (bits .or .u8 (v.toNat : Int) 4))
            clear hst hro ho q0' q1' qB'
            replace q3 := hid q3
            replace q1'' := hid q1''
            replace qB'' := hid qB''
            go_upto_region 8 with (fail)
            refine wp_region_any (by kernel_rfl) ?_
            try (change wpAny _ _ _ _ _ _ _ (World.drew _))
            refine wpAny_take (i := 0) (oi := ⟨some 38, _, _, _, _, _⟩) (v := ?_) rfl (by kernel_rfl) (by kernel_rfl) (by kernel_rfl) (fun _ _ _ h => h) (Or.inl ⟨by rfl, ?_⟩) ?_
            rotate_left
            · intro w; go_simp <;> with_reducible rfl
            simp only [Act.put, List.setIfInBounds_toArray, List.set_cons_zero, List.set_cons_succ]
            refine wpAny_take (i := 1) (oi := ⟨some 39, _, _, _, _, _⟩) (v := ?_) rfl (by kernel_rfl) (by kernel_rfl) (by kernel_rfl) (fun _ _ _ h => h) (Or.inl ⟨by rfl, ?_⟩) ?_
            rotate_left
            · intro w; go_simp <;> with_reducible rfl
            simp only [Act.put, List.setIfInBounds_toArray, List.set_cons_zero, List.set_cons_succ]
            refine wpAny_take (i := 2) (oi := ⟨some 40, _, _, _, _, _⟩) (v := ?_) rfl (by kernel_rfl) (by kernel_rfl) (by kernel_rfl) (fun _ _ _ h => h) (Or.inl ⟨by rfl, ?_⟩) ?_
            rotate_left
            · intro w; go_simp <;> with_reducible rfl
            simp only [Act.put, List.setIfInBounds_toArray, List.set_cons_zero, List.set_cons_succ]
            refine wpAny_take (i := 4) (oi := ⟨some 42, _, _, _, _, _⟩) (v := ?_) rfl (by kernel_rfl) (by kernel_rfl) (by kernel_rfl) (fun _ _ _ h => h) (Or.inl ⟨by rfl, ?_⟩) ?_
            rotate_left
            · intro w; go_simp <;> with_reducible rfl
            simp only [Act.put, List.setIfInBounds_toArray, List.set_cons_zero, List.set_cons_succ]
            refine wpAny_take (i := 5) (oi := ⟨some 43, _, _, _, _, _⟩) (v := ?_) rfl (by kernel_rfl) (by kernel_rfl) (by kernel_rfl) (fun _ _ _ h => h) (Or.inl ⟨by rfl, ?_⟩) ?_
            rotate_left
            · intro w; go_simp <;> with_reducible rfl
            simp only [Act.put, List.setIfInBounds_toArray, List.set_cons_zero, List.set_cons_succ]
            refine wpAny_take (i := 6) (oi := ⟨some 44, _, _, _, _, _⟩) (v := ?_) rfl (by kernel_rfl) (by kernel_rfl) (by kernel_rfl) (fun _ _ _ h => h) (Or.inl ⟨by rfl, ?_⟩) ?_
            rotate_left
            · intro w; go_simp <;> with_reducible rfl
            simp only [Act.put, List.setIfInBounds_toArray, List.set_cons_zero, List.set_cons_succ]
            refine wpAny_ready (rs := [3]) (by kernel_rfl) (by simp) ?_
            refine AllReady.cons rfl (fun K hK => ?_) AllReady.nil
            go_simp
            first | refine hK _ _ ?_ | refine ⟨trivial, hK _ _ ?_⟩ | refine ⟨fun _ _ => trivial, hK _ _ ?_⟩
            clear hK K
            refine wpAny_take (i := 7) (oi := ⟨some 45, _, _, _, _, _⟩) (v := ?_) rfl (by kernel_rfl) (by kernel_rfl) (by kernel_rfl) (fun _ _ _ h => h) (Or.inl ⟨by rfl, ?_⟩) ?_
            rotate_left
            · intro w; go_simp <;> with_reducible rfl
            simp only [Act.put, List.setIfInBounds_toArray, List.set_cons_zero, List.set_cons_succ]
            refine wpAny_take (i := 8) (oi := ⟨some 46, _, _, _, _, _⟩) (v := ?_) rfl (by kernel_rfl) (by kernel_rfl) (by kernel_rfl) (fun _ _ _ h => h) (Or.inl ⟨by rfl, ?_⟩) ?_
            rotate_left
            · intro w; go_simp <;> with_reducible rfl
            simp only [Act.put, List.setIfInBounds_toArray, List.set_cons_zero, List.set_cons_succ]
            refine wpAny_ready (rs := [9]) (by kernel_rfl) (by simp) ?_
            refine AllReady.cons rfl (fun K hK => ?_) AllReady.nil
            go_simp
            first | refine hK _ _ ?_ | refine ⟨trivial, hK _ _ ?_⟩ | refine ⟨fun _ _ => trivial, hK _ _ ?_⟩
            clear hK K
            refine wpAny_done (by kernel_rfl) ?_ _
            go_wp2_with (fail)
            refine ⟨?_, ?_⟩
            · first | exact ⟨j + 1, rm, by omega, by rw [hrm.out], by first | rw [hbn.out] | (rw [← hbn.out]; go_num), q3.out, q1''.out, qB''.out⟩ | ((repeat apply Exists.intro); refine ⟨?_, rfl⟩; exact ⟨j + 1, rm, by omega, by rw [hrm.out], by first | rw [hbn.out] | (rw [← hbn.out]; go_num), q3.out, q1''.out, qB''.out⟩)
            · simp [RowKit.intOf]; omega
          · have ho : bits .or .u8 (v.toNat : Int) 8 = ((setB v 3).toNat : Int) := or_bit v 3 (by decide)
            have q3 := setCell_blk (i := q) (x := .int .u8 (bits .or .u8 (v.toNat : Int) 8)) q0'
            have hro : (rowU r).setIfInBounds q (.int .u8 (bits .or .u8 (v.toNat : Int) 8)) = rowU rm := by rw [ho, rowU_set, hst]
            rw [hro] at q3
            have q1'' := (setCell_off (b := n₀) (i := q) (x := .int .u8 (bits .or .u8 (v.toNat : Int) 8)) (show n₀ + 1 ≠ n₀ by omega)).trans q1'
            have qB'' := (qB'.drewN 1).setCell (p := ⟨n₀, q, none⟩) (show n₀ ≤ n₀ by omega) (.int .u8 (bits .or .u8 (v.toNat : Int) 8))
            clear hst hro ho q0' q1' qB'
            replace q3 := hid q3
            replace q1'' := hid q1''
            replace qB'' := hid qB''
            go_upto_region 8 with (fail)
            refine wp_region_any (by kernel_rfl) ?_
            try (change wpAny _ _ _ _ _ _ _ (World.drew _))
            refine wpAny_take (i := 0) (oi := ⟨some 38, _, _, _, _, _⟩) (v := ?_) rfl (by kernel_rfl) (by kernel_rfl) (by kernel_rfl) (fun _ _ _ h => h) (Or.inl ⟨by rfl, ?_⟩) ?_
            rotate_left
            · intro w; go_simp <;> with_reducible rfl
            simp only [Act.put, List.setIfInBounds_toArray, List.set_cons_zero, List.set_cons_succ]
            refine wpAny_take (i := 1) (oi := ⟨some 39, _, _, _, _, _⟩) (v := ?_) rfl (by kernel_rfl) (by kernel_rfl) (by kernel_rfl) (fun _ _ _ h => h) (Or.inl ⟨by rfl, ?_⟩) ?_
            rotate_left
            · intro w; go_simp <;> with_reducible rfl
            simp only [Act.put, List.setIfInBounds_toArray, List.set_cons_zero, List.set_cons_succ]
            refine wpAny_take (i := 2) (oi := ⟨some 40, _, _, _, _, _⟩) (v := ?_) rfl (by kernel_rfl) (by kernel_rfl) (by kernel_rfl) (fun _ _ _ h => h) (Or.inl ⟨by rfl, ?_⟩) ?_
            rotate_left
            · intro w; go_simp <;> with_reducible rfl
            simp only [Act.put, List.setIfInBounds_toArray, List.set_cons_zero, List.set_cons_succ]
            refine wpAny_take (i := 4) (oi := ⟨some 42, _, _, _, _, _⟩) (v := ?_) rfl (by kernel_rfl) (by kernel_rfl) (by kernel_rfl) (fun _ _ _ h => h) (Or.inl ⟨by rfl, ?_⟩) ?_
            rotate_left
            · intro w; go_simp <;> with_reducible rfl
            simp only [Act.put, List.setIfInBounds_toArray, List.set_cons_zero, List.set_cons_succ]
            refine wpAny_take (i := 5) (oi := ⟨some 43, _, _, _, _, _⟩) (v := ?_) rfl (by kernel_rfl) (by kernel_rfl) (by kernel_rfl) (fun _ _ _ h => h) (Or.inl ⟨by rfl, ?_⟩) ?_
            rotate_left
            · intro w; go_simp <;> with_reducible rfl
            simp only [Act.put, List.setIfInBounds_toArray, List.set_cons_zero, List.set_cons_succ]
            refine wpAny_take (i := 6) (oi := ⟨some 44, _, _, _, _, _⟩) (v := ?_) rfl (by kernel_rfl) (by kernel_rfl) (by kernel_rfl) (fun _ _ _ h => h) (Or.inl ⟨by rfl, ?_⟩) ?_
            rotate_left
            · intro w; go_simp <;> with_reducible rfl
            simp only [Act.put, List.setIfInBounds_toArray, List.set_cons_zero, List.set_cons_succ]
            refine wpAny_ready (rs := [3]) (by kernel_rfl) (by simp) ?_
            refine AllReady.cons rfl (fun K hK => ?_) AllReady.nil
            go_simp
            first | refine hK _ _ ?_ | refine ⟨trivial, hK _ _ ?_⟩ | refine ⟨fun _ _ => trivial, hK _ _ ?_⟩
            clear hK K
            refine wpAny_take (i := 7) (oi := ⟨some 45, _, _, _, _, _⟩) (v := ?_) rfl (by kernel_rfl) (by kernel_rfl) (by kernel_rfl) (fun _ _ _ h => h) (Or.inl ⟨by rfl, ?_⟩) ?_
            rotate_left
            · intro w; go_simp <;> with_reducible rfl
            simp only [Act.put, List.setIfInBounds_toArray, List.set_cons_zero, List.set_cons_succ]
            refine wpAny_take (i := 8) (oi := ⟨some 46, _, _, _, _, _⟩) (v := ?_) rfl (by kernel_rfl) (by kernel_rfl) (by kernel_rfl) (fun _ _ _ h => h) (Or.inl ⟨by rfl, ?_⟩) ?_
            rotate_left
            · intro w; go_simp <;> with_reducible rfl
            simp only [Act.put, List.setIfInBounds_toArray, List.set_cons_zero, List.set_cons_succ]
            refine wpAny_ready (rs := [9]) (by kernel_rfl) (by simp) ?_
            refine AllReady.cons rfl (fun K hK => ?_) AllReady.nil
            go_simp
            first | refine hK _ _ ?_ | refine ⟨trivial, hK _ _ ?_⟩ | refine ⟨fun _ _ => trivial, hK _ _ ?_⟩
            clear hK K
            refine wpAny_done (by kernel_rfl) ?_ _
            go_wp2_with (fail)
            refine ⟨?_, ?_⟩
            · first | exact ⟨j + 1, rm, by omega, by rw [hrm.out], by first | rw [hbn.out] | (rw [← hbn.out]; go_num), q3.out, q1''.out, qB''.out⟩ | ((repeat apply Exists.intro); refine ⟨?_, rfl⟩; exact ⟨j + 1, rm, by omega, by rw [hrm.out], by first | rw [hbn.out] | (rw [← hbn.out]; go_num), q3.out, q1''.out, qB''.out⟩)
            · simp [RowKit.intOf]; omega
          · have ho : bits .or .u8 (v.toNat : Int) 16 = ((setB v 4).toNat : Int) := or_bit v 4 (by decide)
            have q3 := setCell_blk (i := q) (x := .int .u8 (bits .or .u8 (v.toNat : Int) 16)) q0'
            have hro : (rowU r).setIfInBounds q (.int .u8 (bits .or .u8 (v.toNat : Int) 16)) = rowU rm := by rw [ho, rowU_set, hst]
            rw [hro] at q3
            have q1'' := (setCell_off (b := n₀) (i := q) (x := .int .u8 (bits .or .u8 (v.toNat : Int) 16)) (show n₀ + 1 ≠ n₀ by omega)).trans q1'
            have qB'' := (qB'.drewN 1).setCell (p := ⟨n₀, q, none⟩) (show n₀ ≤ n₀ by omega) (.int .u8 (bits .or .u8 (v.toNat : Int) 16))
            clear hst hro ho q0' q1' qB'
            replace q3 := hid q3
            replace q1'' := hid q1''
            replace qB'' := hid qB''
            go_upto_region 8 with (fail)
            refine wp_region_any (by kernel_rfl) ?_
            try (change wpAny _ _ _ _ _ _ _ (World.drew _))
            refine wpAny_take (i := 0) (oi := ⟨some 38, _, _, _, _, _⟩) (v := ?_) rfl (by kernel_rfl) (by kernel_rfl) (by kernel_rfl) (fun _ _ _ h => h) (Or.inl ⟨by rfl, ?_⟩) ?_
            rotate_left
            · intro w; go_simp <;> with_reducible rfl
            simp only [Act.put, List.setIfInBounds_toArray, List.set_cons_zero, List.set_cons_succ]
            refine wpAny_take (i := 1) (oi := ⟨some 39, _, _, _, _, _⟩) (v := ?_) rfl (by kernel_rfl) (by kernel_rfl) (by kernel_rfl) (fun _ _ _ h => h) (Or.inl ⟨by rfl, ?_⟩) ?_
            rotate_left
            · intro w; go_simp <;> with_reducible rfl
            simp only [Act.put, List.setIfInBounds_toArray, List.set_cons_zero, List.set_cons_succ]
            refine wpAny_take (i := 2) (oi := ⟨some 40, _, _, _, _, _⟩) (v := ?_) rfl (by kernel_rfl) (by kernel_rfl) (by kernel_rfl) (fun _ _ _ h => h) (Or.inl ⟨by rfl, ?_⟩) ?_
            rotate_left
            · intro w; go_simp <;> with_reducible rfl
            simp only [Act.put, List.setIfInBounds_toArray, List.set_cons_zero, List.set_cons_succ]
            refine wpAny_take (i := 4) (oi := ⟨some 42, _, _, _, _, _⟩) (v := ?_) rfl (by kernel_rfl) (by kernel_rfl) (by kernel_rfl) (fun _ _ _ h => h) (Or.inl ⟨by rfl, ?_⟩) ?_
            rotate_left
            · intro w; go_simp <;> with_reducible rfl
            simp only [Act.put, List.setIfInBounds_toArray, List.set_cons_zero, List.set_cons_succ]
            refine wpAny_take (i := 5) (oi := ⟨some 43, _, _, _, _, _⟩) (v := ?_) rfl (by kernel_rfl) (by kernel_rfl) (by kernel_rfl) (fun _ _ _ h => h) (Or.inl ⟨by rfl, ?_⟩) ?_
            rotate_left
            · intro w; go_simp <;> with_reducible rfl
            simp only [Act.put, List.setIfInBounds_toArray, List.set_cons_zero, List.set_cons_succ]
            refine wpAny_take (i := 6) (oi := ⟨some 44, _, _, _, _, _⟩) (v := ?_) rfl (by kernel_rfl) (by kernel_rfl) (by kernel_rfl) (fun _ _ _ h => h) (Or.inl ⟨by rfl, ?_⟩) ?_
            rotate_left
            · intro w; go_simp <;> with_reducible rfl
            simp only [Act.put, List.setIfInBounds_toArray, List.set_cons_zero, List.set_cons_succ]
            refine wpAny_ready (rs := [3]) (by kernel_rfl) (by simp) ?_
            refine AllReady.cons rfl (fun K hK => ?_) AllReady.nil
            go_simp
            first | refine hK _ _ ?_ | refine ⟨trivial, hK _ _ ?_⟩ | refine ⟨fun _ _ => trivial, hK _ _ ?_⟩
            clear hK K
            refine wpAny_take (i := 7) (oi := ⟨some 45, _, _, _, _, _⟩) (v := ?_) rfl (by kernel_rfl) (by kernel_rfl) (by kernel_rfl) (fun _ _ _ h => h) (Or.inl ⟨by rfl, ?_⟩) ?_
            rotate_left
            · intro w; go_simp <;> with_reducible rfl
            simp only [Act.put, List.setIfInBounds_toArray, List.set_cons_zero, List.set_cons_succ]
            refine wpAny_take (i := 8) (oi := ⟨some 46, _, _, _, _, _⟩) (v := ?_) rfl (by kernel_rfl) (by kernel_rfl) (by kernel_rfl) (fun _ _ _ h => h) (Or.inl ⟨by rfl, ?_⟩) ?_
            rotate_left
            · intro w; go_simp <;> with_reducible rfl
            simp only [Act.put, List.setIfInBounds_toArray, List.set_cons_zero, List.set_cons_succ]
            refine wpAny_ready (rs := [9]) (by kernel_rfl) (by simp) ?_
            refine AllReady.cons rfl (fun K hK => ?_) AllReady.nil
            go_simp
            first | refine hK _ _ ?_ | refine ⟨trivial, hK _ _ ?_⟩ | refine ⟨fun _ _ => trivial, hK _ _ ?_⟩
            clear hK K
            refine wpAny_done (by kernel_rfl) ?_ _
            go_wp2_with (fail)
            refine ⟨?_, ?_⟩
            · first | exact ⟨j + 1, rm, by omega, by rw [hrm.out], by first | rw [hbn.out] | (rw [← hbn.out]; go_num), q3.out, q1''.out, qB''.out⟩ | ((repeat apply Exists.intro); refine ⟨?_, rfl⟩; exact ⟨j + 1, rm, by omega, by rw [hrm.out], by first | rw [hbn.out] | (rw [← hbn.out]; go_num), q3.out, q1''.out, qB''.out⟩)
            · simp [RowKit.intOf]; omega
          · have ho : bits .or .u8 (v.toNat : Int) 32 = ((setB v 5).toNat : Int) := or_bit v 5 (by decide)
            have q3 := setCell_blk (i := q) (x := .int .u8 (bits .or .u8 (v.toNat : Int) 32)) q0'
            have hro : (rowU r).setIfInBounds q (.int .u8 (bits .or .u8 (v.toNat : Int) 32)) = rowU rm := by rw [ho, rowU_set, hst]
            rw [hro] at q3
            have q1'' := (setCell_off (b := n₀) (i := q) (x := .int .u8 (bits .or .u8 (v.toNat : Int) 32)) (show n₀ + 1 ≠ n₀ by omega)).trans q1'
            have qB'' := (qB'.drewN 1).setCell (p := ⟨n₀, q, none⟩) (show n₀ ≤ n₀ by omega) (.int .u8 (bits .or .u8 (v.toNat : Int) 32))
            clear hst hro ho q0' q1' qB'
            replace q3 := hid q3
            replace q1'' := hid q1''
            replace qB'' := hid qB''
            go_upto_region 8 with (fail)
            refine wp_region_any (by kernel_rfl) ?_
            try (change wpAny _ _ _ _ _ _ _ (World.drew _))
            refine wpAny_take (i := 0) (oi := ⟨some 38, _, _, _, _, _⟩) (v := ?_) rfl (by kernel_rfl) (by kernel_rfl) (by kernel_rfl) (fun _ _ _ h => h) (Or.inl ⟨by rfl, ?_⟩) ?_
            rotate_left
            · intro w; go_simp <;> with_reducible rfl
            simp only [Act.put, List.setIfInBounds_toArray, List.set_cons_zero, List.set_cons_succ]
            refine wpAny_take (i := 1) (oi := ⟨some 39, _, _, _, _, _⟩) (v := ?_) rfl (by kernel_rfl) (by kernel_rfl) (by kernel_rfl) (fun _ _ _ h => h) (Or.inl ⟨by rfl, ?_⟩) ?_
            rotate_left
            · intro w; go_simp <;> with_reducible rfl
            simp only [Act.put, List.setIfInBounds_toArray, List.set_cons_zero, List.set_cons_succ]
            refine wpAny_take (i := 2) (oi := ⟨some 40, _, _, _, _, _⟩) (v := ?_) rfl (by kernel_rfl) (by kernel_rfl) (by kernel_rfl) (fun _ _ _ h => h) (Or.inl ⟨by rfl, ?_⟩) ?_
            rotate_left
            · intro w; go_simp <;> with_reducible rfl
            simp only [Act.put, List.setIfInBounds_toArray, List.set_cons_zero, List.set_cons_succ]
            refine wpAny_take (i := 4) (oi := ⟨some 42, _, _, _, _, _⟩) (v := ?_) rfl (by kernel_rfl) (by kernel_rfl) (by kernel_rfl) (fun _ _ _ h => h) (Or.inl ⟨by rfl, ?_⟩) ?_
            rotate_left
            · intro w; go_simp <;> with_reducible rfl
            simp only [Act.put, List.setIfInBounds_toArray, List.set_cons_zero, List.set_cons_succ]
            refine wpAny_take (i := 5) (oi := ⟨some 43, _, _, _, _, _⟩) (v := ?_) rfl (by kernel_rfl) (by kernel_rfl) (by kernel_rfl) (fun _ _ _ h => h) (Or.inl ⟨by rfl, ?_⟩) ?_
            rotate_left
            · intro w; go_simp <;> with_reducible rfl
            simp only [Act.put, List.setIfInBounds_toArray, List.set_cons_zero, List.set_cons_succ]
            refine wpAny_take (i := 6) (oi := ⟨some 44, _, _, _, _, _⟩) (v := ?_) rfl (by kernel_rfl) (by kernel_rfl) (by kernel_rfl) (fun _ _ _ h => h) (Or.inl ⟨by rfl, ?_⟩) ?_
            rotate_left
            · intro w; go_simp <;> with_reducible rfl
            simp only [Act.put, List.setIfInBounds_toArray, List.set_cons_zero, List.set_cons_succ]
            refine wpAny_ready (rs := [3]) (by kernel_rfl) (by simp) ?_
            refine AllReady.cons rfl (fun K hK => ?_) AllReady.nil
            go_simp
            first | refine hK _ _ ?_ | refine ⟨trivial, hK _ _ ?_⟩ | refine ⟨fun _ _ => trivial, hK _ _ ?_⟩
            clear hK K
            refine wpAny_take (i := 7) (oi := ⟨some 45, _, _, _, _, _⟩) (v := ?_) rfl (by kernel_rfl) (by kernel_rfl) (by kernel_rfl) (fun _ _ _ h => h) (Or.inl ⟨by rfl, ?_⟩) ?_
            rotate_left
            · intro w; go_simp <;> with_reducible rfl
            simp only [Act.put, List.setIfInBounds_toArray, List.set_cons_zero, List.set_cons_succ]
            refine wpAny_take (i := 8) (oi := ⟨some 46, _, _, _, _, _⟩) (v := ?_) rfl (by kernel_rfl) (by kernel_rfl) (by kernel_rfl) (fun _ _ _ h => h) (Or.inl ⟨by rfl, ?_⟩) ?_
            rotate_left
            · intro w; go_simp <;> with_reducible rfl
            simp only [Act.put, List.setIfInBounds_toArray, List.set_cons_zero, List.set_cons_succ]
            refine wpAny_ready (rs := [9]) (by kernel_rfl) (by simp) ?_
            refine AllReady.cons rfl (fun K hK => ?_) AllReady.nil
            go_simp
            first | refine hK _ _ ?_ | refine ⟨trivial, hK _ _ ?_⟩ | refine ⟨fun _ _ => trivial, hK _ _ ?_⟩
            clear hK K
            refine wpAny_done (by kernel_rfl) ?_ _
            go_wp2_with (fail)
            refine ⟨?_, ?_⟩
            · first | exact ⟨j + 1, rm, by omega, by rw [hrm.out], by first | rw [hbn.out] | (rw [← hbn.out]; go_num), q3.out, q1''.out, qB''.out⟩ | ((repeat apply Exists.intro); refine ⟨?_, rfl⟩; exact ⟨j + 1, rm, by omega, by rw [hrm.out], by first | rw [hbn.out] | (rw [← hbn.out]; go_num), q3.out, q1''.out, qB''.out⟩)
            · simp [RowKit.intOf]; omega
          · have ho : bits .or .u8 (v.toNat : Int) 64 = ((setB v 6).toNat : Int) := or_bit v 6 (by decide)
            have q3 := setCell_blk (i := q) (x := .int .u8 (bits .or .u8 (v.toNat : Int) 64)) q0'
            have hro : (rowU r).setIfInBounds q (.int .u8 (bits .or .u8 (v.toNat : Int) 64)) = rowU rm := by rw [ho, rowU_set, hst]
            rw [hro] at q3
            have q1'' := (setCell_off (b := n₀) (i := q) (x := .int .u8 (bits .or .u8 (v.toNat : Int) 64)) (show n₀ + 1 ≠ n₀ by omega)).trans q1'
            have qB'' := (qB'.drewN 1).setCell (p := ⟨n₀, q, none⟩) (show n₀ ≤ n₀ by omega) (.int .u8 (bits .or .u8 (v.toNat : Int) 64))
            clear hst hro ho q0' q1' qB'
            replace q3 := hid q3
            replace q1'' := hid q1''
            replace qB'' := hid qB''
            go_upto_region 8 with (fail)
            refine wp_region_any (by kernel_rfl) ?_
            try (change wpAny _ _ _ _ _ _ _ (World.drew _))
            refine wpAny_take (i := 0) (oi := ⟨some 38, _, _, _, _, _⟩) (v := ?_) rfl (by kernel_rfl) (by kernel_rfl) (by kernel_rfl) (fun _ _ _ h => h) (Or.inl ⟨by rfl, ?_⟩) ?_
            rotate_left
            · intro w; go_simp <;> with_reducible rfl
            simp only [Act.put, List.setIfInBounds_toArray, List.set_cons_zero, List.set_cons_succ]
            refine wpAny_take (i := 1) (oi := ⟨some 39, _, _, _, _, _⟩) (v := ?_) rfl (by kernel_rfl) (by kernel_rfl) (by kernel_rfl) (fun _ _ _ h => h) (Or.inl ⟨by rfl, ?_⟩) ?_
            rotate_left
            · intro w; go_simp <;> with_reducible rfl
            simp only [Act.put, List.setIfInBounds_toArray, List.set_cons_zero, List.set_cons_succ]
            refine wpAny_take (i := 2) (oi := ⟨some 40, _, _, _, _, _⟩) (v := ?_) rfl (by kernel_rfl) (by kernel_rfl) (by kernel_rfl) (fun _ _ _ h => h) (Or.inl ⟨by rfl, ?_⟩) ?_
            rotate_left
            · intro w; go_simp <;> with_reducible rfl
            simp only [Act.put, List.setIfInBounds_toArray, List.set_cons_zero, List.set_cons_succ]
            refine wpAny_take (i := 4) (oi := ⟨some 42, _, _, _, _, _⟩) (v := ?_) rfl (by kernel_rfl) (by kernel_rfl) (by kernel_rfl) (fun _ _ _ h => h) (Or.inl ⟨by rfl, ?_⟩) ?_
            rotate_left
            · intro w; go_simp <;> with_reducible rfl
            simp only [Act.put, List.setIfInBounds_toArray, List.set_cons_zero, List.set_cons_succ]
            refine wpAny_take (i := 5) (oi := ⟨some 43, _, _, _, _, _⟩) (v := ?_) rfl (by kernel_rfl) (by kernel_rfl) (by kernel_rfl) (fun _ _ _ h => h) (Or.inl ⟨by rfl, ?_⟩) ?_
            rotate_left
            · intro w; go_simp <;> with_reducible rfl
            simp only [Act.put, List.setIfInBounds_toArray, List.set_cons_zero, List.set_cons_succ]
            refine wpAny_take (i := 6) (oi := ⟨some 44, _, _, _, _, _⟩) (v := ?_) rfl (by kernel_rfl) (by kernel_rfl) (by kernel_rfl) (fun _ _ _ h => h) (Or.inl ⟨by rfl, ?_⟩) ?_
            rotate_left
            · intro w; go_simp <;> with_reducible rfl
            simp only [Act.put, List.setIfInBounds_toArray, List.set_cons_zero, List.set_cons_succ]
            refine wpAny_ready (rs := [3]) (by kernel_rfl) (by simp) ?_
            refine AllReady.cons rfl (fun K hK => ?_) AllReady.nil
            go_simp
            first | refine hK _ _ ?_ | refine ⟨trivial, hK _ _ ?_⟩ | refine ⟨fun _ _ => trivial, hK _ _ ?_⟩
            clear hK K
            refine wpAny_take (i := 7) (oi := ⟨some 45, _, _, _, _, _⟩) (v := ?_) rfl (by kernel_rfl) (by kernel_rfl) (by kernel_rfl) (fun _ _ _ h => h) (Or.inl ⟨by rfl, ?_⟩) ?_
            rotate_left
            · intro w; go_simp <;> with_reducible rfl
            simp only [Act.put, List.setIfInBounds_toArray, List.set_cons_zero, List.set_cons_succ]
            refine wpAny_take (i := 8) (oi := ⟨some 46, _, _, _, _, _⟩) (v := ?_) rfl (by kernel_rfl) (by kernel_rfl) (by kernel_rfl) (fun _ _ _ h => h) (Or.inl ⟨by rfl, ?_⟩) ?_
            rotate_left
            · intro w; go_simp <;> with_reducible rfl
            simp only [Act.put, List.setIfInBounds_toArray, List.set_cons_zero, List.set_cons_succ]
            refine wpAny_ready (rs := [9]) (by kernel_rfl) (by simp) ?_
            refine AllReady.cons rfl (fun K hK => ?_) AllReady.nil
            go_simp
            first | refine hK _ _ ?_ | refine ⟨trivial, hK _ _ ?_⟩ | refine ⟨fun _ _ => trivial, hK _ _ ?_⟩
            clear hK K
            refine wpAny_done (by kernel_rfl) ?_ _
            go_wp2_with (fail)
            refine ⟨?_, ?_⟩
            · first | exact ⟨j + 1, rm, by omega, by rw [hrm.out], by first | rw [hbn.out] | (rw [← hbn.out]; go_num), q3.out, q1''.out, qB''.out⟩ | ((repeat apply Exists.intro); refine ⟨?_, rfl⟩; exact ⟨j + 1, rm, by omega, by rw [hrm.out], by first | rw [hbn.out] | (rw [← hbn.out]; go_num), q3.out, q1''.out, qB''.out⟩)
            · simp [RowKit.intOf]; omega
          · have ho : bits .or .u8 (v.toNat : Int) 128 = ((setB v 7).toNat : Int) := or_bit v 7 (by decide)
            have q3 := setCell_blk (i := q) (x := .int .u8 (bits .or .u8 (v.toNat : Int) 128)) q0'
            have hro : (rowU r).setIfInBounds q (.int .u8 (bits .or .u8 (v.toNat : Int) 128)) = rowU rm := by rw [ho, rowU_set, hst]
            rw [hro] at q3
            have q1'' := (setCell_off (b := n₀) (i := q) (x := .int .u8 (bits .or .u8 (v.toNat : Int) 128)) (show n₀ + 1 ≠ n₀ by omega)).trans q1'
            have qB'' := (qB'.drewN 1).setCell (p := ⟨n₀, q, none⟩) (show n₀ ≤ n₀ by omega) (.int .u8 (bits .or .u8 (v.toNat : Int) 128))
            clear hst hro ho q0' q1' qB'
            replace q3 := hid q3
            replace q1'' := hid q1''
            replace qB'' := hid qB''
            go_upto_region 8 with (fail)
            refine wp_region_any (by kernel_rfl) ?_
            try (change wpAny _ _ _ _ _ _ _ (World.drew _))
            refine wpAny_take (i := 0) (oi := ⟨some 38, _, _, _, _, _⟩) (v := ?_) rfl (by kernel_rfl) (by kernel_rfl) (by kernel_rfl) (fun _ _ _ h => h) (Or.inl ⟨by rfl, ?_⟩) ?_
            rotate_left
            · intro w; go_simp <;> with_reducible rfl
            simp only [Act.put, List.setIfInBounds_toArray, List.set_cons_zero, List.set_cons_succ]
            refine wpAny_take (i := 1) (oi := ⟨some 39, _, _, _, _, _⟩) (v := ?_) rfl (by kernel_rfl) (by kernel_rfl) (by kernel_rfl) (fun _ _ _ h => h) (Or.inl ⟨by rfl, ?_⟩) ?_
            rotate_left
            · intro w; go_simp <;> with_reducible rfl
            simp only [Act.put, List.setIfInBounds_toArray, List.set_cons_zero, List.set_cons_succ]
            refine wpAny_take (i := 2) (oi := ⟨some 40, _, _, _, _, _⟩) (v := ?_) rfl (by kernel_rfl) (by kernel_rfl) (by kernel_rfl) (fun _ _ _ h => h) (Or.inl ⟨by rfl, ?_⟩) ?_
            rotate_left
            · intro w; go_simp <;> with_reducible rfl
            simp only [Act.put, List.setIfInBounds_toArray, List.set_cons_zero, List.set_cons_succ]
            refine wpAny_take (i := 4) (oi := ⟨some 42, _, _, _, _, _⟩) (v := ?_) rfl (by kernel_rfl) (by kernel_rfl) (by kernel_rfl) (fun _ _ _ h => h) (Or.inl ⟨by rfl, ?_⟩) ?_
            rotate_left
            · intro w; go_simp <;> with_reducible rfl
            simp only [Act.put, List.setIfInBounds_toArray, List.set_cons_zero, List.set_cons_succ]
            refine wpAny_take (i := 5) (oi := ⟨some 43, _, _, _, _, _⟩) (v := ?_) rfl (by kernel_rfl) (by kernel_rfl) (by kernel_rfl) (fun _ _ _ h => h) (Or.inl ⟨by rfl, ?_⟩) ?_
            rotate_left
            · intro w; go_simp <;> with_reducible rfl
            simp only [Act.put, List.setIfInBounds_toArray, List.set_cons_zero, List.set_cons_succ]
            refine wpAny_take (i := 6) (oi := ⟨some 44, _, _, _, _, _⟩) (v := ?_) rfl (by kernel_rfl) (by kernel_rfl) (by kernel_rfl) (fun _ _ _ h => h) (Or.inl ⟨by rfl, ?_⟩) ?_
            rotate_left
            · intro w; go_simp <;> with_reducible rfl
            simp only [Act.put, List.setIfInBounds_toArray, List.set_cons_zero, List.set_cons_succ]
            refine wpAny_ready (rs := [3]) (by kernel_rfl) (by simp) ?_
            refine AllReady.cons rfl (fun K hK => ?_) AllReady.nil
            go_simp
            first | refine hK _ _ ?_ | refine ⟨trivial, hK _ _ ?_⟩ | refine ⟨fun _ _ => trivial, hK _ _ ?_⟩
            clear hK K
            refine wpAny_take (i := 7) (oi := ⟨some 45, _, _, _, _, _⟩) (v := ?_) rfl (by kernel_rfl) (by kernel_rfl) (by kernel_rfl) (fun _ _ _ h => h) (Or.inl ⟨by rfl, ?_⟩) ?_
            rotate_left
            · intro w; go_simp <;> with_reducible rfl
            simp only [Act.put, List.setIfInBounds_toArray, List.set_cons_zero, List.set_cons_succ]
            refine wpAny_take (i := 8) (oi := ⟨some 46, _, _, _, _, _⟩) (v := ?_) rfl (by kernel_rfl) (by kernel_rfl) (by kernel_rfl) (fun _ _ _ h => h) (Or.inl ⟨by rfl, ?_⟩) ?_
            rotate_left
            · intro w; go_simp <;> with_reducible rfl
            simp only [Act.put, List.setIfInBounds_toArray, List.set_cons_zero, List.set_cons_succ]
            refine wpAny_ready (rs := [9]) (by kernel_rfl) (by simp) ?_
            refine AllReady.cons rfl (fun K hK => ?_) AllReady.nil
            go_simp
            first | refine hK _ _ ?_ | refine ⟨trivial, hK _ _ ?_⟩ | refine ⟨fun _ _ => trivial, hK _ _ ?_⟩
            clear hK K
            refine wpAny_done (by kernel_rfl) ?_ _
            go_wp2_with (fail)
            refine ⟨?_, ?_⟩
            · first | exact ⟨j + 1, rm, by omega, by rw [hrm.out], by first | rw [hbn.out] | (rw [← hbn.out]; go_num), q3.out, q1''.out, qB''.out⟩ | ((repeat apply Exists.intro); refine ⟨?_, rfl⟩; exact ⟨j + 1, rm, by omega, by rw [hrm.out], by first | rw [hbn.out] | (rw [← hbn.out]; go_num), q3.out, q1''.out, qB''.out⟩)
            · simp [RowKit.intOf]; omega
      · obtain rfl : j = nn := by omega
        have hr9 : res = (r, 0) := by rw [hr.out, hw]
        clear hw
        replace hr9 := hid hr9
        have ht1 : wr.there (n₀ + 1) 0 (rowU r).size := there_blk q1 (by rw [rowU_size, hr16]; rfl)
        have hi7 : (Try.prog.info? 75).map (·.size) = some (rowU r).size := by rw [rowU_size, hr16]; kernel_rfl
        have u1 := (Upd.refl q1).setCells (rowU r).toList (by rw [Array.length_toList, rowU_size, hr16]; rfl)
        have BZ := u1.below qB (by omega)
        have u2 := u1.here
        rw [Array.toArray_toList] at u2
        have hbI : ¬ (b : Int) < (fn : Int) + (j : Int) := by omega
        clear u1
        replace u2 := hid u2
        replace BZ := hid BZ
        replace hb := hid hb
        go_wp2_with (first | refine wpList_load_mid rfl 75 _ rfl n₀ 0 rfl (r.map fun b => Value.int .u8 b.toNat) _ hrg Try.underlying75 rfl hi6 ?_ | refine wpList_store_mid rfl 75 _ _ rfl (n₀ + 1) 0 (rowU r) rfl rfl ht1 hi7 (one_rowU _) ?_)
        exact outRowTmp (ty := 75) rfl u2.out rfl rfl rfl (by kernel_rfl) hi7 ⟨by first | (rw [hr9.out]; done) | (rw [hr9.out]; rfl), hn₀ ▸ BZ.out⟩
end Go.Proofs.Ytomgjapjeckokaa
