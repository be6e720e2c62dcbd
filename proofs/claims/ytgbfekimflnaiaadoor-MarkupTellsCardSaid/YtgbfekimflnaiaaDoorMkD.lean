/- The walks of markup's one and word. -/
import Derived.Test.YtgbfekimflnaiaaDoorMkC
namespace Go.Proofs.YtgbfekimflnaiaaDoor
open Go.RowKit Go.Shelf Go.Lib

theorem results_row_tmp {P : Program} {fn : Func} {p q : Tmp} {ty : TypeId} (h : fn.results = #[.cell p ty, .tmp q]) (tmps : Array Value) (w : World) (g : Nat) (t : TypeId) (cs : Array Value) (fr : Nat × Nat) (d : TypeDesc)
    (hp : tmps.getD p undef = .pointer (some ⟨g, 0, none⟩)) (hg : w.heap[g]? = some (.cells cs t fr))
    (hu : P.underlying ty = some d) (hd : (match d with | .struct _ | .array _ _ => true | _ => false) = true) (hi : (P.info? ty).map (·.size) = some cs.size) :
    (results fn tmps).run P w = .ok (.tuple #[.agg cs, tmps.getD q undef]) w := by
  have hp' : tmps[p]?.getD undef = .pointer (some ⟨g, 0, none⟩) := by simpa using hp
  simp [results, h, hp', asAddr, run_loadVar_row w g t ty cs fr d hg hu hd hi]
theorem outOne {R : Ending → World → Prop} {a : Act} {w : World} {b : Nat} {x y : Value} {v : Value}
    (hp : a.tmps.getD 2 undef = .pointer (some ⟨b, 0, none⟩)) (hd : a.defers = []) (hv : a.tmps.getD 3 undef = v)
    (hg : w.heap[b]? = some (.cells #[x, y] 41 (0, 0)))
    (hR : R (.returned (.tuple #[.agg #[x, y], v])) w) : bodyPost Tryd.prog Tryd.f24 R .ret a w := by
  have hk : (Tryd.prog.underlying 41).any TypeDesc.isRow = true := by kernel_rfl
  obtain ⟨d, hu, hr⟩ : ∃ d, Tryd.prog.underlying 41 = some d ∧ TypeDesc.isRow d = true := by
    cases h : Tryd.prog.underlying 41 with
    | none => rw [h] at hk; cases hk
    | some d => rw [h] at hk; exact ⟨d, rfl, hk⟩
  have := results_row_tmp (P := Tryd.prog) (fn := Tryd.f24) (p := 2) (q := 3) rfl a.tmps w b _ _ _ d hp hg hu (by cases d <;> first | rfl | cases hr) (by kernel_rfl)
  rw [hv] at this
  exact bodyPost_ret this hd hR

theorem owns_offD {W : World} {base : Nat} {e : TypeId} {size : Nat} {v : Value} {n : Nat} {xs : List Value} (h : W.ownsRow base e size v n xs) {b i : Nat} (hp : b < base) (u : Value) : (W.setCell ⟨b, i, none⟩ u).ownsRow base e size v n xs := by
  obtain ⟨h1, h2⟩ := h
  refine ⟨h1, h2.imp id ?_⟩
  rintro ⟨g, cap, cur, hv, hg, hh, r⟩
  exact ⟨g, cap, cur, hv, hg, (setCell_off (by omega)).trans hh, r⟩

/-- a line that is a part by itself -/
def oneK (l : L8) : Int := if l.take 2 = [61, 32] then 2 else if l.take 2 = [45, 32] then 3 else 4
def oneO (l : L8) : Bool := decide (l.take 2 = [61, 32]) || decide (l.take 2 = [45, 32]) || decide (l = [45, 45, 45])
def oneW (s : ByteArray) : List ByteArray := if s.data.toList.take 2 = [61, 32] ∨ s.data.toList.take 2 = [45, 32] then wdsB (toB (s.data.toList.drop 2)) else []
theorem pre2 (l : L8) (a b : UInt8) : Lib.hasPrefix l [a, b] = decide (l.take 2 = [a, b]) := by
  unfold Lib.hasPrefix
  rw [Bool.eq_iff_iff, List.isPrefixOf_iff_prefix, decide_eq_true_iff]
  constructor
  · rintro ⟨t, rfl⟩; rfl
  · intro h; exact ⟨l.drop 2, by rw [← h, List.take_append_drop]⟩

set_option maxRecDepth 100000 in
set_option maxHeartbeats 2000000 in
theorem one_any (s : ByteArray) (w : World) (hs : s.size ≤ 1000000) :
    Calls Tryd.prog 24 #[.string s] w fun e w' => ∃ v, e = .returned (.tuple #[.agg #[.int .i64 (oneK s.data.toList), v], .bool (oneO s.data.toList)]) ∧ w'.ownsRow (w.heap.size + 1) 9 1 v (oneW s).length ((oneW s).flatMap encT) ∧ Below w.heap.size w w' := by
  have c1 := hid (fun W => Tryd.strings_CutPrefix s ⟨#[61, 32]⟩ W)
  have c2 := hid (fun W => Tryd.strings_CutPrefix s ⟨#[45, 32]⟩ W)
  simp only [show (⟨#[61, 32]⟩ : ByteArray).data.toList = [61, 32] from rfl, show (⟨#[45, 32]⟩ : ByteArray).data.toList = [45, 32] from rfl, Lib.trimPrefix, pre2] at c1 c2
  have hk : oneK s.data.toList = if s.data.toList.take 2 = [61, 32] then 2 else if s.data.toList.take 2 = [45, 32] then 3 else 4 := rfl
  have ho : oneO s.data.toList = (decide (s.data.toList.take 2 = [61, 32]) || decide (s.data.toList.take 2 = [45, 32]) || decide (s.data.toList = [45, 45, 45])) := rfl
  have hw : oneW s = if s.data.toList.take 2 = [61, 32] ∨ s.data.toList.take 2 = [45, 32] then wdsB ⟨(s.data.toList.drop 2).toArray⟩ else [] := rfl
  have hrz : (⟨(s.data.toList.drop 2).toArray⟩ : ByteArray).size ≤ 1000000 := by
    show (toB (s.data.toList.drop 2)).size ≤ _
    rw [toB_size, List.length_drop, size8]; omega
  simp only [List.length_cons, List.length_nil, Nat.reduceAdd] at c1 c2
  have heq : (s.toList == [45, 45, 45]) = decide (s.data.toList = [45, 45, 45]) := by rw [Lib.toList_data, Bool.eq_iff_iff, beq_iff_eq, decide_eq_true_iff]
  generalize oneK s.data.toList = K at *
  generalize oneO s.data.toList = O at *
  generalize oneW s = WS at *
  replace hk := hid hk
  replace ho := hid ho
  replace hw := hid hw
  have hn := World.alloc_heap_new w (.cells #[.int .i64 0, .slice none 0 0] 41)
  have hB1 : Below w.heap.size w (w.alloc (.cells #[.int .i64 0, .slice none 0 0] 41)) := (Below.refl _ w).alloc (Nat.le_refl _) _
  have hz : (w.alloc (.cells #[.int .i64 0, .slice none 0 0] 41)).heap.size = w.heap.size + 1 := by simp
  obtain ⟨W1, hW1⟩ : ∃ V, w.alloc (.cells #[.int .i64 0, .slice none 0 0] 41) = V := ⟨_, rfl⟩
  rw [hW1] at hn hB1 hz
  go_enter Tryd.func24, Tryd.ntmps24
  by_cases h1 : s.data.toList.take 2 = [61, 32]
  · simp only [h1, if_true, decide_true] at c1
    have hK : K = 2 := by rw [hk.out, if_pos h1]
    have hO : O = true := by rw [ho.out]; simp [h1]
    have hW : WS = wdsB ⟨(s.data.toList.drop 2).toArray⟩ := by rw [hw.out, if_pos (.inl h1)]
    subst hK hO hW
    generalize (⟨(s.data.toList.drop 2).toArray⟩ : ByteArray) = r at *
    have cW := hid (fun W => Words_any r W hrz)
    clear hk ho hw c2 h1
    go_wp2_with (fail)
    refine (c1.out _).mono ?_
    rintro e w2 ⟨rfl, hw2⟩
    obtain rfl : W1 = w2 := hw2.symm
    go_wp2_with (fail)
    refine (cW.out _).mono ?_
    rintro e w3 ⟨v, rfl, o3, b3⟩
    obtain ⟨pv, cv, rfl, -, -⟩ := owns_shape o3
    have hb3 := (b3.block w.heap.size (by omega)).trans hn
    have d0 := cell_blk hb3 (i := 0) rfl
    have d1 := cell_blk hb3 (i := 1) rfl
    have f0 := frozen_blk hb3 (i := 0)
    have f1 := frozen_blk hb3 (i := 1)
    have B3 := hB1.trans (b3.mono hB1.size)
    go_wp2_with (fail)
    refine outOne rfl rfl rfl (set2 hb3) ?_
    exact ⟨_, rfl, owns_offD (owns_offD (owns_downQ (by omega) o3) (Nat.lt_succ_self _) _) (Nat.lt_succ_self _) _, (B3.setCell (p := ⟨w.heap.size, 0, none⟩) (Nat.le_refl _) _).setCell (p := ⟨w.heap.size, 1, none⟩) (Nat.le_refl _) _⟩
  · by_cases h2 : s.data.toList.take 2 = [45, 32]
    · simp only [h1, decide_false, Bool.false_eq_true, if_false] at c1
      simp only [h2, if_true, decide_true] at c2
      have hK : K = 3 := by rw [hk.out, if_neg h1, if_pos h2]
      have hO : O = true := by rw [ho.out]; simp [h2]
      have hW : WS = wdsB ⟨(s.data.toList.drop 2).toArray⟩ := by rw [hw.out, if_pos (.inr h2)]
      subst hK hO hW
      generalize (⟨(s.data.toList.drop 2).toArray⟩ : ByteArray) = r at *
      have cW := hid (fun W => Words_any r W hrz)
      clear hk ho hw h1 h2
      go_wp2_with (fail)
      refine (c1.out _).mono ?_
      rintro e w2 ⟨rfl, hw2⟩
      obtain rfl : W1 = w2 := hw2.symm
      go_wp2_with (fail)
      refine (c2.out _).mono ?_
      rintro e w2 ⟨rfl, hw2⟩
      obtain rfl : W1 = w2 := hw2.symm
      go_wp2_with (fail)
      refine (cW.out _).mono ?_
      rintro e w3 ⟨v, rfl, o3, b3⟩
      obtain ⟨pv, cv, rfl, -, -⟩ := owns_shape o3
      have hb3 := (b3.block w.heap.size (by omega)).trans hn
      have d0 := cell_blk hb3 (i := 0) rfl
      have d1 := cell_blk hb3 (i := 1) rfl
      have f0 := frozen_blk hb3 (i := 0)
      have f1 := frozen_blk hb3 (i := 1)
      have B3 := hB1.trans (b3.mono hB1.size)
      go_wp2_with (fail)
      refine outOne rfl rfl rfl (set2 hb3) ?_
      exact ⟨_, rfl, owns_offD (owns_offD (owns_downQ (by omega) o3) (Nat.lt_succ_self _) _) (Nat.lt_succ_self _) _, (B3.setCell (p := ⟨w.heap.size, 0, none⟩) (Nat.le_refl _) _).setCell (p := ⟨w.heap.size, 1, none⟩) (Nat.le_refl _) _⟩
    · simp only [h1, decide_false, Bool.false_eq_true, if_false] at c1
      simp only [h2, decide_false, Bool.false_eq_true, if_false] at c2
      have hK : K = 4 := by rw [hk.out, if_neg h1, if_neg h2]
      have hO : (s.toList == [45, 45, 45]) = O := Eq.symm <| by rw [ho.out, heq]; simp [h1, h2]
      have hW : WS = [] := by rw [hw.out, if_neg (fun h => h.elim h1 h2)]
      subst hK hW
      have d0 := cell_blk hn (i := 0) rfl
      have d1 := cell_blk hn (i := 1) rfl
      have f0 := frozen_blk hn (i := 0)
      have f1 := frozen_blk hn (i := 1)
      clear hk ho hw h1 h2 heq
      go_wp2_with (fail)
      refine (c1.out _).mono ?_
      rintro e w2 ⟨rfl, hw2⟩
      obtain rfl : W1 = w2 := hw2.symm
      go_wp2_with (fail)
      refine (c2.out _).mono ?_
      rintro e w2 ⟨rfl, hw2⟩
      obtain rfl : W1 = w2 := hw2.symm
      go_wp2_with (fail)
      refine outOne rfl rfl rfl (set2 hn) ?_
      exact ⟨_, rfl, World.ownsRow_nil _ _ _ _, (hB1.setCell (p := ⟨w.heap.size, 0, none⟩) (Nat.le_refl _) _).setCell (p := ⟨w.heap.size, 1, none⟩) (Nat.le_refl _) _⟩
end Go.Proofs.YtgbfekimflnaiaaDoor
