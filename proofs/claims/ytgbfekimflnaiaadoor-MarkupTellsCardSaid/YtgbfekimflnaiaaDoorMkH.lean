/- The walk of markup's Parse. -/
import Derived.Test.YtgbfekimflnaiaaDoorMkG
namespace Go.Proofs.YtgbfekimflnaiaaDoor
open Go.RowKit Go.Shelf Go.Lib
attribute [local go_sem] Oper.semAt_some

theorem results_two {P : Program} {fn : Func} {p q : Tmp} {t1 t2 : TypeId} (h : fn.results = #[.cell p t1, .cell q t2]) (tmps : Array Value) (w : World) (g1 g2 : Nat) (v1 v2 : Value) (d1 d2 : TypeDesc)
    (hp : tmps.getD p undef = .pointer (some ⟨g1, 0, none⟩)) (hq : tmps.getD q undef = .pointer (some ⟨g2, 0, none⟩)) (h1 : w.cell? ⟨g1, 0, none⟩ = some v1) (h2 : w.cell? ⟨g2, 0, none⟩ = some v2)
    (hu1 : P.underlying t1 = some d1) (hu2 : P.underlying t2 = some d2) (k1 : d1.isRow = false) (k2 : d2.isRow = false) : (results fn tmps).run P w = .ok (.tuple #[v1, v2]) w := by
  have hp' : tmps[p]?.getD undef = .pointer (some ⟨g1, 0, none⟩) := by simpa using hp
  have hq' : tmps[q]?.getD undef = .pointer (some ⟨g2, 0, none⟩) := by simpa using hq
  have e1 : (loadVar t1 ⟨g1, 0, none⟩).run P w = .ok v1 w := by
    cases d1 <;> first | (cases k1; done) | simp [loadVar, isAgg, run_underlying hu1, go_sem, h1]
  have e2 : (loadVar t2 ⟨g2, 0, none⟩).run P w = .ok v2 w := by
    cases d2 <;> first | (cases k2; done) | simp [loadVar, isAgg, run_underlying hu2, go_sem, h2]
  simp [results, h, hp', hq', asAddr, e1, e2]

/-- what Parse answers: the number of its error, the parts -/
def parseR (s : L8) : Int × List P8 := if 240 < s.length then (16, []) else if plainB 10 s then (match parseL s with | none => (15, []) | some l => (0, l)) else (15, [])

theorem oneW_words (s : ByteArray) : (oneW s).map (fun w => w.data.toList) = if s.data.toList.take 2 = [61, 32] ∨ s.data.toList.take 2 = [45, 32] then wordsL (s.data.toList.drop 2) else [] := by
  unfold oneW
  split
  · rw [wdsB_words, List.map_map]
    show List.map (fun x => (toB x).data.toList) _ = _
    simp [toB_list]
  · rfl
theorem wds8 (s : ByteArray) : (wdsB s).map (fun w => w.data.toList) = wordsL s.data.toList := by
  rw [wdsB_words, List.map_map]
  show List.map (fun x => (toB x).data.toList) _ = _
  simp [toB_list]
theorem step_one {x : ByteArray} (h : oneO x.data.toList = true) (st : PSt) : stepP x.data.toList st = if oneK x.data.toList ≠ 4 ∧ oneW x = [] then none else some (st.1 ++ [p8 (oneK x.data.toList) (oneW x)], false) := by
  have hw := oneW_words x
  by_cases h1 : x.data.toList.take 2 = [61, 32]
  · have ek : oneK x.data.toList = 2 := by unfold oneK; rw [if_pos h1]
    rw [if_pos (Or.inl h1)] at hw
    have ee : oneW x = [] ↔ wordsL (x.data.toList.drop 2) = [] := by rw [← hw, List.map_eq_nil_iff]
    unfold stepP p8
    rw [if_pos h1, ek, hw]
    by_cases h2 : wordsL (x.data.toList.drop 2) = []
    · rw [if_pos h2, if_pos ⟨by decide, ee.2 h2⟩]
    · rw [if_neg h2, if_neg (fun h => h2 (ee.1 h.2))]
  · by_cases h2 : x.data.toList.take 2 = [45, 32]
    · have ek : oneK x.data.toList = 3 := by unfold oneK; rw [if_neg h1, if_pos h2]
      rw [if_pos (Or.inr h2)] at hw
      have ee : oneW x = [] ↔ wordsL (x.data.toList.drop 2) = [] := by rw [← hw, List.map_eq_nil_iff]
      unfold stepP p8
      rw [if_neg h1, if_pos h2, ek, hw]
      by_cases h3 : wordsL (x.data.toList.drop 2) = []
      · rw [if_pos h3, if_pos ⟨by decide, ee.2 h3⟩]
      · rw [if_neg h3, if_neg (fun h => h3 (ee.1 h.2))]
    · have h3 : x.data.toList = [45, 45, 45] := by unfold oneO at h; simpa [h1, h2] using h
      have ek : oneK x.data.toList = 4 := by unfold oneK; rw [if_neg h1, if_neg h2]
      rw [if_neg (fun h => h.elim h1 h2)] at hw
      unfold stepP p8
      rw [if_neg h1, if_neg h2, if_pos h3, ek, hw, if_neg (fun h => h.1 rfl)]
theorem step_plain {x : ByteArray} (h : oneO x.data.toList = false) (st : PSt) : stepP x.data.toList st = if wdsB x = [] then some (st.1, false) else if st.2 = true then some (addLast st.1 ((wdsB x).map fun w => w.data.toList), true) else some (st.1 ++ [p8 1 (wdsB x)], true) := by
  unfold oneO at h
  simp only [Bool.or_eq_false_iff, decide_eq_false_iff_not] at h
  obtain ⟨⟨h1, h2⟩, h3⟩ := h
  have hw := wds8 x
  unfold stepP p8
  rw [if_neg h1, if_neg h2, if_neg h3, hw]
  by_cases h4 : wdsB x = []
  · rw [if_pos h4, if_pos (by rw [← hw, h4]; rfl)]
  · rw [if_neg h4, if_neg (by rw [← hw]; simpa using h4)]

/-- at a return: the two results lie in their boxes, one mark is open -/
theorem outParse {D n₀ : Nat} {W : World} {tmps : Array Value} {R : Ending → World → Prop} {v : Value} {n : Int} (hK : W.heap[D]? = some (.deferred (some [])))
    (h2 : W.heap[n₀]? = some (.cells #[v] 22 (0, 0))) (h3 : W.heap[n₀ + 1]? = some (.cells #[.int .i64 n] 25 (0, 0)))
    (e2 : tmps.getD 2 undef = .pointer (some ⟨n₀, 0, none⟩)) (e3 : tmps.getD 3 undef = .pointer (some ⟨n₀ + 1, 0, none⟩))
    (hR : R (.returned (.tuple #[v, .int .i64 n])) (W.putObj D (.deferred none))) : bodyPostM Fence.wide 0 Tryd.prog Tryd.f10 R .ret { tmps := tmps, defers := [{ target := .collected D, args := #[] }] } W := by
  obtain ⟨d1, hu1, k1⟩ : ∃ d, Tryd.prog.underlying 22 = some d ∧ d.isRow = false := by
    have hk : (Tryd.prog.underlying 22).map TypeDesc.isRow = some false := by kernel_rfl
    obtain ⟨d, h1, h2⟩ := Option.map_eq_some_iff.1 hk
    exact ⟨d, h1, h2⟩
  obtain ⟨d2, hu2, k2⟩ : ∃ d, Tryd.prog.underlying 25 = some d ∧ d.isRow = false := by
    have hk : (Tryd.prog.underlying 25).map TypeDesc.isRow = some false := by kernel_rfl
    obtain ⟨d, h1, h2⟩ := Option.map_eq_some_iff.1 hk
    exact ⟨d, h1, h2⟩
  refine leave1 hK (fun W' hk => results_two (fn := Tryd.f10) rfl _ W' n₀ (n₀ + 1) v (.int .i64 n) d1 d2 e2 e3 (cell_blk (i := 0) (hk.same _ _ h2 (.inl rfl)) rfl) (cell_blk (i := 0) (hk.same _ _ h3 (.inl rfl)) rfl) hu1 hu2 k1 k2) hR
/-- the same, no mark open -/
theorem outParse0 {n₀ : Nat} {W : World} {tmps : Array Value} {R : Ending → World → Prop} {v : Value} {n : Int}
    (h2 : W.heap[n₀]? = some (.cells #[v] 22 (0, 0))) (h3 : W.heap[n₀ + 1]? = some (.cells #[.int .i64 n] 25 (0, 0)))
    (e2 : tmps.getD 2 undef = .pointer (some ⟨n₀, 0, none⟩)) (e3 : tmps.getD 3 undef = .pointer (some ⟨n₀ + 1, 0, none⟩))
    (hR : R (.returned (.tuple #[v, .int .i64 n])) W) : bodyPostM Fence.wide 0 Tryd.prog Tryd.f10 R .ret { tmps := tmps, defers := [] } W := by
  obtain ⟨d1, hu1, k1⟩ : ∃ d, Tryd.prog.underlying 22 = some d ∧ d.isRow = false := by
    have hk : (Tryd.prog.underlying 22).map TypeDesc.isRow = some false := by kernel_rfl
    obtain ⟨d, h1, h2⟩ := Option.map_eq_some_iff.1 hk
    exact ⟨d, h1, h2⟩
  obtain ⟨d2, hu2, k2⟩ : ∃ d, Tryd.prog.underlying 25 = some d ∧ d.isRow = false := by
    have hk : (Tryd.prog.underlying 25).map TypeDesc.isRow = some false := by kernel_rfl
    obtain ⟨d, h1, h2⟩ := Option.map_eq_some_iff.1 hk
    exact ⟨d, h1, h2⟩
  have hr := results_two (P := Tryd.prog) (fn := Tryd.f10) rfl tmps W n₀ (n₀ + 1) v (.int .i64 n) d1 d2 e2 e3 (cell_blk (i := 0) h2 rfl) (cell_blk (i := 0) h3 rfl) hu1 hu2 k1 k2
  exact ⟨_, hr, hR⟩
theorem Agr.of_kept {B bs lo : Nat} {A C : World} (h : Kept B A C) : Agr bs lo A C := fun _ _ _ _ _ h3 => h.same _ _ h3 (.inl rfl)

theorem grownA {W W' : World} {tmp : Obj} {base : Nat} {e : TypeId} {size : Nat} {v : Value} {n : Nat} {xs : List Value} (h : W.ownsRow base e size v n xs) (hg : (W.alloc tmp).grownBy W' v.ownBlock) {b : Nat} (hb : b < base) {o : Obj} (ho : W.heap[b]? = some o) : W'.heap[b]? = some o :=
  grown_blk (h.alloc tmp) hg hb ((Below.heap_alloc W tmp b (Array.getElem?_eq_some_iff.1 ho).1).trans ho)
theorem lines_mem {c : UInt8} {l y : L8} (h : y ∈ cutB c l) : y.length ≤ l.length := by
  have h1 := lines_sum c l
  have h2 : y.length + 1 ≤ ((cutB c l).map fun x => x.length + 1).sum := by
    generalize cutB c l = L at *
    clear h1
    induction L with
    | nil => cases h
    | cons a L ih =>
      rw [List.map_cons, List.sum_cons]
      rcases List.mem_cons.1 h with rfl | h
      · omega
      · have := ih h; omega
  omega
theorem PInv.below {bs bo bb n₀ : Nat} {V V' : World} {out : List Pt} {opn : Bool} (h : PInv bs bo bb n₀ V out opn) (b : Below V.heap.size V V') : PInv bs bo bb n₀ V' out opn := by
  obtain ⟨⟨v, r1, r2⟩, o, lo, w1, w2, w3, w4⟩ := h
  have k := Kept.of_below b 0
  exact ⟨⟨v, k.same _ _ r1 (.inl rfl), k.owns r2⟩, k.same _ _ o (.inl rfl), lo, w1, Nat.le_trans w2 b.size, fun p hp => (w3 p hp).agr (Agr.of_kept k), fun p hp => owns_agr (w4 p hp) w1.1 (Agr.of_kept k)⟩
theorem PInv.drop {bs bo bb n₀ : Nat} {V : World} {out : List Pt} {opn : Bool} (h : PInv bs bo bb n₀ V out opn) (d1 : bo ≠ bb) (d2 : bb < n₀) (b : Bool) : PInv bs bo bb n₀ (V.setCell ⟨bb, 0, none⟩ (.bool b)) out b := by
  obtain ⟨⟨v, r1, r2⟩, o, lo, w1, w2, w3, w4⟩ := h
  have ha : ∀ l, Agr bs l V (V.setCell ⟨bb, 0, none⟩ (.bool b)) := fun l => Agr.setCell o (by decide) _
  exact ⟨⟨v, (setCell_off d1).trans r1, owns_offD r2 d2 _⟩, setCell_blk o, lo, w1, by simpa [World.setCell] using w2, fun p hp => (w3 p hp).agr (ha _), fun p hp => owns_agr (w4 p hp) w1.1 (ha _)⟩
theorem foldP_inv : ∀ (l : List L8) (st st' : PSt), (st.2 = true → st.1 ≠ []) → foldP l st = some st' → st'.2 = true → st'.1 ≠ [] := by
  intro l
  induction l with
  | nil => intro st st' h e; cases e; exact h
  | cons x r ih =>
    intro st st' h e
    rw [foldP] at e
    cases e2 : stepP x st with
    | none => rw [e2] at e; cases e
    | some s => rw [e2] at e; exact ih s st' (stepP_inv e2) e
/-- what Parse answers, as it lies in memory -/
def ParseE (s : ByteArray) (n₀ : Nat) (w : World) (e : Ending) (w' : World) : Prop :=
  ∃ (v : Value) (L : List Pt) (n : Int), e = .returned (.tuple #[v, .int .i64 n]) ∧ parseR s.data.toList = (n, L.map pt8) ∧ w'.ownsRow n₀ 41 2 v L.length (L.flatMap encPt) ∧ (∀ x ∈ L, Sl w' 1 encT x.2.1 x.2.2) ∧ Below n₀ w w'

theorem Tryd.infoPt : (Tryd.prog.info? 41).map (fun i => (i.zero, i.size, i.bytes)) = some (some (.agg #[.int .i64 0, .slice none 0 0]), 2, 32) := by kernel_rfl

set_option maxRecDepth 100000 in
set_option maxHeartbeats 8000000 in
theorem Parse_any (s : ByteArray) (w : World) (hT : Tabs w) (hs : s.size ≤ 1000000) :
    Calls Tryd.prog 10 #[.string s] w fun e w' => ParseE s w.heap.size w e w' := by
  refine calls_of_marks Tryd.func10 rfl ?_
  simp only [Tryd.ntmps10, List.size_toArray, List.length_cons, List.length_nil, Nat.reduceAdd, Nat.reduceSub, Array.replicate_succ, Array.replicate_zero, List.push_toArray, List.append_toArray, List.nil_append, List.cons_append]
  obtain ⟨n₀, hn₀⟩ : ∃ n, w.heap.size = n := ⟨_, rfl⟩
  have hR0 : (fun e w' => ParseE s w.heap.size w e w') = fun e w' => ParseE s n₀ w e w' := by rw [hn₀]
  rw [hR0]
  clear hR0
  have a2 := World.alloc_heap_new w (.cells #[.slice none 0 0] 22)
  have a3 := World.alloc_heap_new (w.alloc (.cells #[.slice none 0 0] 22)) (.cells #[.int .i64 0] 25)
  rw [World.size_alloc, hn₀] at a3
  have a2' := (Kept.alloc 0 (w.alloc (.cells #[.slice none 0 0] 22)) (.cells #[.int .i64 0] 25)).same _ _ a2 (.inl rfl)
  rw [hn₀] at a2'
  have hB1 : Below n₀ w ((w.alloc (.cells #[.slice none 0 0] 22)).alloc (.cells #[.int .i64 0] 25)) := by
    rw [← hn₀]; exact ((Below.refl w.heap.size w).alloc (Nat.le_refl _) _).alloc (by simp) _
  have hz1 : ((w.alloc (.cells #[.slice none 0 0] 22)).alloc (.cells #[.int .i64 0] 25)).heap.size = n₀ + 2 := by simp [hn₀]
  obtain ⟨W1, hW1⟩ : ∃ V, (w.alloc (.cells #[.slice none 0 0] 22)).alloc (.cells #[.int .i64 0] 25) = V := ⟨_, rfl⟩
  rw [hW1] at a2' a3 hB1 hz1
  have hT1 := hT.below (hn₀ ▸ hB1)
  have cP := hid (plain_any s 10 (by decide) W1 hs hT1)
  have f2 := frozen_blk a2' (i := 0)
  have f3 := frozen_blk a3 (i := 0)
  have g2 := cell_blk a2' (i := 0) rfl
  have g3 := cell_blk a3 (i := 0) rfl
  have hpr : parseR s.data.toList = if 240 < s.data.toList.length then ((16 : Int), ([] : List P8)) else if plainB 10 s.data.toList then (match parseL s.data.toList with | none => (15, []) | some l => (0, l)) else (15, []) := rfl
  rw [size8] at hpr
  clear a2 hT
  by_cases h240 : (240 : Int) < s.size
  · rw [if_pos (by omega)] at hpr
    gi_wp2_with (fail)
    exact outParse0 (n₀ := n₀) (v := .slice none 0 0) (n := 16) ((setCell_off (by omega)).trans (setCell_blk a2')) (setCell_blk ((setCell_off (by omega)).trans a3)) rfl rfl
      ⟨_, [], 16, rfl, hpr, World.ownsRow_nil _ _ _ _, by simp, (hB1.setCell (p := ⟨n₀, 0, none⟩) (Nat.le_refl _) _).setCell (p := ⟨n₀ + 1, 0, none⟩) (Nat.le_succ _) _⟩
  · rw [if_neg (by omega)] at hpr
    have hs240 : s.size ≤ 240 := by omega
    gi_wp2_with (fail)
    refine ⟨trivial, rfl, (callsIn_wide.2 cP.out).mono ?_⟩
    rintro e w2 ⟨rfl, b2⟩
    have c2 := (b2.block n₀ (by omega)).trans a2'
    have c3 := (b2.block (n₀ + 1) (by omega)).trans a3
    have hB2 := hB1.trans (b2.mono (by omega))
    have hz2 := b2.size
    rw [hz1] at hz2
    clear f2 f3 g2 g3
    by_cases hpl : plainB 10 s.data.toList
    · rw [if_pos hpl] at hpr
      simp only [hpl, decide_true]
      obtain ⟨b0, hb0⟩ : ∃ n, w2.heap.size = n := ⟨_, rfl⟩
      have d2 := World.alloc_heap_new w2 (.cells #[.slice none 0 0] 22)
      have d3 := World.alloc_heap_new (w2.alloc (.cells #[.slice none 0 0] 22)) (.cells #[.bool false] 4)
      rw [World.size_alloc, hb0] at d3
      have d2' := (Kept.alloc 0 (w2.alloc (.cells #[.slice none 0 0] 22)) (.cells #[.bool false] 4)).same _ _ d2 (.inl rfl)
      rw [hb0] at d2'
      have e2 := ((Kept.alloc 0 w2 (.cells #[.slice none 0 0] 22)).trans (Kept.alloc 0 _ (.cells #[.bool false] 4))).same _ _ c2 (.inl rfl)
      have e3 := ((Kept.alloc 0 w2 (.cells #[.slice none 0 0] 22)).trans (Kept.alloc 0 _ (.cells #[.bool false] 4))).same _ _ c3 (.inl rfl)
      have hB3 : Below n₀ w ((w2.alloc (.cells #[.slice none 0 0] 22)).alloc (.cells #[.bool false] 4)) := (hB2.alloc (by omega) _).alloc (by simp; omega) _
      have hz3 : ((w2.alloc (.cells #[.slice none 0 0] 22)).alloc (.cells #[.bool false] 4)).heap.size = b0 + 2 := by simp [hb0]
      obtain ⟨W3, hW3⟩ : ∃ V, (w2.alloc (.cells #[.slice none 0 0] 22)).alloc (.cells #[.bool false] 4) = V := ⟨_, rfl⟩
      rw [hW3] at d2' d3 e2 e3 hB3 hz3
      have cS := hid (SplitSeq_any 10 s W3)
      replace hW3 := hid hW3
      gi_wp2_with (fail)
      rw [hW3.out]
      refine ⟨trivial, rfl, (callsIn_wide.2 cS.out).mono ?_⟩
      rintro e W4 ⟨rfl, hSp, hbs, hz4, b4⟩
      have k4 := Kept.of_below b4 0
      have m2 := k4.same _ _ d2' (.inl rfl)
      have m3 := k4.same _ _ d3 (.inl rfl)
      have m4 := k4.same _ _ e2 (.inl rfl)
      have m5 := k4.same _ _ e3 (.inl rfl)
      have hB4 := hB3.trans (b4.mono (by omega))
      rw [hz3] at hSp hbs hz4 ⊢
      clear d2 d3 d2' e2 e3 c2 c3 a2' a3 cS cP k4 b4 hW3 hW1
      gi_wp2_with (fail)
      have hpnN : ∀ k, k ≠ b0 + 2 → (k == b0 + 2) = false := fun k hk => by simpa using hk
      have hpn := hpnN
      refine range_pB (act := ?mk) rfl (enters_of Tryd.func49 (by kernel_rfl) rfl) (split1_seq 10 s hs (b0 + 2 + 1) (b0 + 2) (b0 + 2 + 2) (by omega) (by omega)) (fun _ => rfl)
        (fun pre V => (∃ out opn, PInv (b0 + 2) b0 (b0 + 1) (b0 + 5) V out opn ∧ foldP (pre.map fun x => x.data.toList) ([], false) = some (out.map pt8, opn)) ∧ V.heap[n₀]? = some (.cells #[.slice none 0 0] 22 (0, 0)) ∧ V.heap[n₀ + 1]? = some (.cells #[.int .i64 0] 25 (0, 0)) ∧ Below n₀ w V ∧ b0 + 5 ≤ V.heap.size)
        (fun c _ V => c = .ret ∧ parseL s.data.toList = none ∧ V.heap[n₀]? = some (.cells #[.slice none 0 0] 22 (0, 0)) ∧ V.heap[n₀ + 1]? = some (.cells #[.int .i64 15] 25 (0, 0)) ∧ Below n₀ w V)
        ?hI ?hIx (fun B => SpR.st B) (fun _ _ => St.pure _) (fun _ => St.pure _) (fun _ => St.pure _) ?h0 hSp (fun A C hk h => hk.same _ _ h (.inl rfl)) hbs (fun k hk => by simp; omega) ?assign ?body ?done ?stop
      case assign =>
        intro l x V K hK
        dsimp only [strEnc]
        gi_wp2
        exact hK
      case hI =>
        rintro pre A C hk ⟨⟨out, opn, h1, h2⟩, h3, h4, h5, h6⟩
        exact ⟨⟨out, opn, h1.keptB hk hpn (by omega) (by omega) (by omega), h2⟩, hk.blk h3 (hpn _ (by omega)), hk.blk h4 (hpn _ (by omega)), hk.below (by omega) (by omega) (fun k hk => hpn _ (by omega)) h5, Nat.le_trans h6 hk.size⟩
      case hIx =>
        rintro c pre A C hk ⟨h1, h2, h3, h4, h5⟩
        exact ⟨h1, h2, hk.blk h3 (hpn _ (by omega)), hk.blk h4 (hpn _ (by omega)), hk.below (by omega) (by omega) (fun k hk => hpn _ (by omega)) h5⟩
      case h0 =>
        exact ⟨⟨[], false, ⟨⟨_, m2, World.ownsRow_nil _ _ _ _⟩, m3, b0 + 5, by omega, by omega, (fun p hp => by simp at hp), (fun p hp => by simp at hp)⟩, rfl⟩, m4, m5, hB4, by omega⟩
      case done =>
        rintro D xs V hD rfl ⟨⟨out, opn, ⟨⟨v, r1, r2⟩, h1b, hwd⟩, h2⟩, h3, h4, h5, h6⟩ hR hK
        obtain ⟨pv, cv, rfl, -, -⟩ := owns_shape r2
        have hall := PInv.all (⟨⟨_, r1, r2⟩, h1b, hwd⟩ : PInv (b0 + 2) b0 (b0 + 1) (b0 + 5) V out opn)
        have hpo : parseL s.data.toList = some (out.map pt8) := by
          unfold parseL
          have e : (pcsB 10 s).map (fun x => x.data.toList) = cutB 10 s.data.toList := by
            unfold pcsB; rw [List.map_map]
            show List.map (fun x => (toB x).data.toList) _ = _
            simp [toB_list]
          rw [← e, h2]; rfl
        rw [hpo] at hpr
        have r1c := cell_blk r1 (i := 0) rfl
        have g3 := cell_blk h3 (i := 0) rfl
        have g4 := cell_blk h4 (i := 0) rfl
        have f3 := frozen_blk h3 (i := 0)
        have f4 := frozen_blk h4 (i := 0)
        gi_wp2_with (fail)
        have u3 : ((V.setCell ⟨n₀, 0, none⟩ (.slice pv out.length cv)).setCell ⟨n₀ + 1, 0, none⟩ (.int .i64 0)).heap[n₀]? = some (.cells #[.slice pv out.length cv] 22 (0, 0)) := (setCell_off (by omega)).trans (setCell_blk h3)
        have u4 : ((V.setCell ⟨n₀, 0, none⟩ (.slice pv out.length cv)).setCell ⟨n₀ + 1, 0, none⟩ (.int .i64 0)).heap[n₀ + 1]? = some (.cells #[.int .i64 0] 25 (0, 0)) := setCell_blk ((setCell_off (by omega)).trans h4)
        have uK : ((V.setCell ⟨n₀, 0, none⟩ (.slice pv out.length cv)).setCell ⟨n₀ + 1, 0, none⟩ (.int .i64 0)).heap[D]? = some (.deferred (some [])) := (setCell_off (by omega)).trans ((setCell_off (by omega)).trans hK)
        have kp := Kept.putObj (B := W4.heap.size) (.deferred none) hD uK rfl
        have hag : ∀ l, Agr (b0 + 2) l V (((V.setCell ⟨n₀, 0, none⟩ (.slice pv out.length cv)).setCell ⟨n₀ + 1, 0, none⟩ (.int .i64 0)).putObj D (.deferred none)) := fun l =>
          ((Agr.setCell h3 (by decide) _).trans (Agr.setCell ((setCell_off (by omega)).trans h4) (by decide) _)).trans (Agr.of_kept kp)
        refine outParse uK u3 u4 rfl rfl ⟨_, out, 0, rfl, hpr, ?_, fun x hx => hall x hx _ (hag _), ?_⟩
        · exact kp.owns (owns_downQ (by omega) (owns_offD (owns_offD r2 (show n₀ < b0 + 5 by omega) _) (show n₀ + 1 < b0 + 5 by omega) _))
        · exact kp.below (by omega) (by omega) ((h5.setCell (p := ⟨n₀, 0, none⟩) (Nat.le_refl _) _).setCell (p := ⟨n₀ + 1, 0, none⟩) (Nat.le_succ _) _)
      case stop =>
        rintro D c pre V hD - ⟨rfl, h2, h3, h4, h5⟩ hK
        rw [h2] at hpr
        have kp := Kept.putObj (B := W4.heap.size) (.deferred none) hD hK rfl
        gi_wp2_with (fail)
        exact outParse hK h3 h4 rfl rfl ⟨_, [], 15, rfl, hpr, World.ownsRow_nil _ _ _ _, by simp, kp.below (by omega) (by omega) h5⟩
      case body =>
        rintro l pre x V hl hlr ⟨⟨out, opn, hP, hfo⟩, h3, h4, h5, h6⟩ hR hadm
        have hxl : x.size ≤ 240 := by
          have hm : x ∈ pcsB 10 s := hadm.subset (by simp)
          unfold pcsB at hm
          obtain ⟨y, hy, rfl⟩ := List.mem_map.1 hm
          rw [toB_size]
          have := lines_mem hy
          rw [size8] at this
          omega
        have hcnt : wcount out + (wordsL x.data.toList).length ≤ 241 := by
          obtain ⟨t, ht⟩ := hadm
          have e1 := foldP_have _ _ _ (by simp) hfo
          have e2 := have_count out
          have e3 := lines_sum 10 s.data.toList
          have e4 : cutB 10 s.data.toList = (pre.map fun x => x.data.toList) ++ [x.data.toList] ++ t.map fun x => x.data.toList := by
            have e : (pcsB 10 s).map (fun x => x.data.toList) = cutB 10 s.data.toList := by
              unfold pcsB; rw [List.map_map]
              show List.map (fun x => (toB x).data.toList) _ = _
              simp [toB_list]
            rw [← e, ← ht]; simp
          have e5 := words_flat (pre.map fun x => x.data.toList)
          have e6 := wordsL_len x.data.toList
          rw [e4] at e3
          simp only [List.map_append, List.sum_append, List.map_cons, List.map_nil, List.sum_cons, List.sum_nil] at e3
          rw [e1] at e2
          rw [show haveP ([] : List P8) = [] from rfl, List.nil_append] at e2
          have e7 := size8 s
          have e8 := size8 x
          omega
        obtain ⟨rt, hcut⟩ : ∃ rt, cutB 10 s.data.toList = (pre.map fun x => x.data.toList) ++ x.data.toList :: rt := by
          obtain ⟨t, ht⟩ := hadm
          refine ⟨t.map fun x => x.data.toList, ?_⟩
          have e : (pcsB 10 s).map (fun x => x.data.toList) = cutB 10 s.data.toList := by
            unfold pcsB; rw [List.map_map]
            show List.map (fun x => (toB x).data.toList) _ = _
            simp [toB_list]
          rw [← e, ← ht]; simp
        have hz6 := h6
        have cO := hid (one_any x V (by omega))
        by_cases hoo : oneO x.data.toList = true
        · have hst := step_one hoo (out.map pt8, opn)
          rw [hoo] at cO
          obtain ⟨K, hK⟩ : ∃ K, oneK x.data.toList = K := ⟨_, rfl⟩
          rw [hK] at cO hst
          obtain ⟨WS, hWS⟩ : ∃ WS, oneW x = WS := ⟨_, rfl⟩
          rw [hWS] at cO hst
          have hlen : out.length ≤ 241 := by
            have h1 := foldP_len _ _ _ hfo
            obtain ⟨t, ht⟩ := hadm
            have h2 := cutB_len 10 s.data.toList
            have h3 := congrArg List.length ht
            unfold pcsB at h3
            rw [List.length_map] at h3
            have h4 := size8 s
            simp at h1 h3
            omega
          gi_wp2_with (fail)
          refine ⟨trivial, rfl, (callsIn_wide.2 cO.out).mono ?_⟩
          rintro e V1 ⟨v, rfl, o1, b1⟩
          obtain ⟨pv, cv, rfl, -, -⟩ := owns_shape o1
          obtain ⟨⟨v0, r1, r2⟩, ob, hwd⟩ := hP
          obtain ⟨p0, c0, rfl, -, -⟩ := owns_shape r2
          have hP : PInv (b0 + 2) b0 (b0 + 1) (b0 + 5) V out opn := ⟨⟨_, r1, r2⟩, ob, hwd⟩
          have hzV1 := b1.size
          obtain ⟨V2, hV2⟩ : ∃ U, V1.alloc (.cells #[.int .i64 K, .slice pv WS.length cv] 41) = U := ⟨_, rfl⟩
          have b2 : Below V.heap.size V V2 := by rw [← hV2]; exact b1.alloc b1.size _
          have hzV2 : V2.heap.size = V1.heap.size + 1 := by rw [← hV2]; simp
          have n2 : V2.heap[V1.heap.size]? = some (.cells #[.int .i64 K, .slice pv WS.length cv] 41 (0, 0)) := by rw [← hV2]; exact World.alloc_heap_new V1 _
          have kV2 := Kept.of_below b2 0
          have r1b := kV2.same _ _ r1 (.inl rfl)
          have r2b := kV2.owns r2
          have o2b := kV2.same _ _ ob (.inl rfl)
          have h3b := kV2.same _ _ h3 (.inl rfl)
          have h4b := kV2.same _ _ h4 (.inl rfl)
          have o1b : V2.ownsRow (V.heap.size + 1) 9 1 (.slice pv WS.length cv) WS.length (WS.flatMap encT) := by rw [← hV2]; exact o1.alloc _
          have k0 := cell_blk n2 (i := 0) rfl
          have k1 := cell_blk n2 (i := 1) rfl
          have k2 := cell_blk r1b (i := 0) rfl
          have k3 := cell_blk h3b (i := 0) rfl
          have k4 := cell_blk h4b (i := 0) rfl
          have l3 := frozen_blk h3b (i := 0)
          have l4 := frozen_blk h4b (i := 0)
          obtain ⟨i0, hi, hz0, hz1', hz2'⟩ := info_parts Tryd.infoPt
          clear hcnt hK hWS
          by_cases hk4 : K = 4
          · subst hk4
            rw [if_neg (fun h => h.1 rfl)] at hst
            replace hst := hid hst
            gi_wp2_with (gi_at_builtin; go_must (refine wpListIn_append_own _ rfl _ _ 22 rfl (b0 + 5) 41 i0 (.agg #[.int .i64 0, .slice none 0 0]) 2 32 Tryd.underlying22 hi hz0 hz1' hz2' rfl (by decide) _ _ _ rfl (r2b.alloc _) ⟨_, 0, none⟩ 1 1 [.int .i64 4, .slice pv WS.length cv] rfl rfl (by rw [← hzV2]; exact cells_newS V2 _ _) (by simp [Value.oneCell']) (by unfold maxLen; omega) (by omega) (by simp; omega) ?_; intro v' w3 hown' hgrow _; obtain ⟨g', cap', rfl⟩ := ownsRow_succ hown'; have y1 := grownA r2b hgrow (show b0 < b0 + 5 by omega) r1b; have y2 := grownA r2b hgrow (show b0 + 1 < b0 + 5 by omega) o2b; have y3 := grownA r2b hgrow (show n₀ < b0 + 5 by omega) h3b; have y4 := grownA r2b hgrow (show n₀ + 1 < b0 + 5 by omega) h4b; have z1 := frozen_blk y1 (i := 0); have z2 := frozen_blk y2 (i := 0); have c1 := cell_blk y1 (i := 0) rfl; have c2 := cell_blk y2 (i := 0) rfl))
            obtain ⟨q1, q2, q3⟩ := PInv.app hP b2 (k := 4) (ws := WS) o1b (by omega) (by omega) r1b r2b hown' hgrow (show b0 < b0 + 5 by omega) (show b0 + 1 < b0 + 5 by omega) (show b0 ≠ b0 + 1 by omega) (show b0 + 2 < V.heap.size + 1 ∧ b0 + 5 ≤ V.heap.size + 1 by omega) (by omega) false
            refine ⟨((((KeepsB.of_below _ b2).trans (KeepsB.alloc _ _ _)).trans (KeepsB.grown _ (r2b.alloc _) (fun k hk => hpn _ (by omega)) hgrow)).trans (KeepsB.setCell _ y1 (hpn _ (by omega)) _)).trans (KeepsB.setCell _ ((setCell_off (by omega)).trans y2) (hpn _ (by omega)) _), ?_, ⟨_, _, q1, ?_⟩, (setCell_off (by omega)).trans ((setCell_off (by omega)).trans y3), (setCell_off (by omega)).trans ((setCell_off (by omega)).trans y4), ?_, by omega⟩
            · exact ⟨(setCell_off (by omega)).trans ((setCell_off (by omega)).trans (grownA r2b hgrow (show b0 + 2 + 1 < b0 + 5 by omega) (kV2.same _ _ hR.1 (.inl rfl)))), (setCell_off (by omega)).trans ((setCell_off (by omega)).trans (grownA r2b hgrow (show b0 + 2 + 2 < b0 + 5 by omega) (kV2.same _ _ hR.2 (.inl rfl))))⟩
            · rw [List.map_append, foldP_app, hfo]
              show (stepP x.data.toList (out.map pt8, opn)).bind _ = _
              rw [hst.out]
              simp [pt8, foldP]
            · exact (((((h5.trans (b2.mono (by omega))).alloc (by omega) _).grown hgrow (by simp; omega) (fun j e => Nat.le_trans (show n₀ ≤ b0 + 5 by omega) (own_base r2b e))).setCell (p := ⟨b0, 0, none⟩) (show n₀ ≤ b0 by omega) _).setCell (p := ⟨b0 + 1, 0, none⟩) (show n₀ ≤ b0 + 1 by omega) _)
          · have hk4b : (K != 4) = true := by simp [hk4]
            by_cases hw0 : WS = []
            · have hl0 : ((WS.length : Int) == 0) = true := by rw [hw0]; rfl
              rw [if_pos ⟨hk4, hw0⟩] at hst
              have hpn : parseL s.data.toList = none := by
                unfold parseL
                rw [hcut, foldP_app, hfo]
                show Option.map _ ((stepP x.data.toList (out.map pt8, opn)).bind _) = _
                rw [hst]; rfl
              replace hst := hid hst
              replace hw0 := hid hw0
              gi_wp2_with (fail)
              exact ⟨((KeepsB.of_below _ b2).trans (KeepsB.setCell _ h3b (hpnN _ (by omega)) _)).trans (KeepsB.setCell _ ((setCell_off (by omega)).trans h4b) (hpnN _ (by omega)) _), rfl, hpn, (setCell_off (by omega)).trans (setCell_blk h3b), setCell_blk ((setCell_off (by omega)).trans h4b), ((h5.trans (b2.mono (by omega))).setCell (p := ⟨n₀, 0, none⟩) (Nat.le_refl _) _).setCell (p := ⟨n₀ + 1, 0, none⟩) (Nat.le_succ _) _⟩
            · have hl0 : ((WS.length : Int) == 0) = false := beq_eq_false_iff_ne.2 (by have := List.length_pos_iff.2 hw0; omega)
              rw [if_neg (fun h => hw0 h.2)] at hst
              replace hst := hid hst
              gi_wp2_with (gi_at_builtin; go_must (refine wpListIn_append_own _ rfl _ _ 22 rfl (b0 + 5) 41 i0 (.agg #[.int .i64 0, .slice none 0 0]) 2 32 Tryd.underlying22 hi hz0 hz1' hz2' rfl (by decide) _ _ _ rfl (r2b.alloc _) ⟨_, 0, none⟩ 1 1 [.int .i64 K, .slice pv WS.length cv] rfl rfl (by rw [← hzV2]; exact cells_newS V2 _ _) (by simp [Value.oneCell']) (by unfold maxLen; omega) (by omega) (by simp; omega) ?_; intro v' w3 hown' hgrow _; obtain ⟨g', cap', rfl⟩ := ownsRow_succ hown'; have y1 := grownA r2b hgrow (show b0 < b0 + 5 by omega) r1b; have y2 := grownA r2b hgrow (show b0 + 1 < b0 + 5 by omega) o2b; have y3 := grownA r2b hgrow (show n₀ < b0 + 5 by omega) h3b; have y4 := grownA r2b hgrow (show n₀ + 1 < b0 + 5 by omega) h4b; have z1 := frozen_blk y1 (i := 0); have z2 := frozen_blk y2 (i := 0); have c1 := cell_blk y1 (i := 0) rfl; have c2 := cell_blk y2 (i := 0) rfl))
              obtain ⟨q1, q2, q3⟩ := PInv.app hP b2 (k := K) (ws := WS) o1b (by omega) (by omega) r1b r2b hown' hgrow (show b0 < b0 + 5 by omega) (show b0 + 1 < b0 + 5 by omega) (show b0 ≠ b0 + 1 by omega) (show b0 + 2 < V.heap.size + 1 ∧ b0 + 5 ≤ V.heap.size + 1 by omega) (by omega) false
              refine ⟨((((KeepsB.of_below _ b2).trans (KeepsB.alloc _ _ _)).trans (KeepsB.grown _ (r2b.alloc _) (fun k hk => hpn _ (by omega)) hgrow)).trans (KeepsB.setCell _ y1 (hpn _ (by omega)) _)).trans (KeepsB.setCell _ ((setCell_off (by omega)).trans y2) (hpn _ (by omega)) _), ?_, ⟨_, _, q1, ?_⟩, (setCell_off (by omega)).trans ((setCell_off (by omega)).trans y3), (setCell_off (by omega)).trans ((setCell_off (by omega)).trans y4), ?_, by omega⟩
              · exact ⟨(setCell_off (by omega)).trans ((setCell_off (by omega)).trans (grownA r2b hgrow (show b0 + 2 + 1 < b0 + 5 by omega) (kV2.same _ _ hR.1 (.inl rfl)))), (setCell_off (by omega)).trans ((setCell_off (by omega)).trans (grownA r2b hgrow (show b0 + 2 + 2 < b0 + 5 by omega) (kV2.same _ _ hR.2 (.inl rfl))))⟩
              · rw [List.map_append, foldP_app, hfo]
                show (stepP x.data.toList (out.map pt8, opn)).bind _ = _
                rw [hst.out]
                simp [pt8, foldP]
              · exact (((((h5.trans (b2.mono (by omega))).alloc (by omega) _).grown hgrow (by simp; omega) (fun j e => Nat.le_trans (show n₀ ≤ b0 + 5 by omega) (own_base r2b e))).setCell (p := ⟨b0, 0, none⟩) (show n₀ ≤ b0 by omega) _).setCell (p := ⟨b0 + 1, 0, none⟩) (show n₀ ≤ b0 + 1 by omega) _)
        · have hof : oneO x.data.toList = false := by simpa using hoo
          have hst := step_plain hof (out.map pt8, opn)
          rw [hof] at cO
          generalize oneK x.data.toList = K at *
          generalize oneW x = WK at *
          gi_wp2_with (fail)
          refine ⟨trivial, rfl, (callsIn_wide.2 cO.out).mono ?_⟩
          rintro e V1 ⟨v, rfl, o1, b1⟩
          obtain ⟨pv, cv, rfl, -, -⟩ := owns_shape o1
          obtain ⟨V2, hV2⟩ : ∃ U, V1.alloc (.cells #[.int .i64 K, .slice pv WK.length cv] 41) = U := ⟨_, rfl⟩
          have b2 : Below V.heap.size V V2 := by rw [← hV2]; exact b1.alloc b1.size _
          have hzV2 := b2.size
          have cW := hid (Words_any x V2 (by omega))
          clear o1
          gi_wp2_with (fail)
          refine ⟨trivial, rfl, (callsIn_wide.2 cW.out).mono ?_⟩
          rintro e V3 ⟨v, rfl, o3, b3⟩
          have hwl : (wdsB x).length = (wordsL x.data.toList).length := by rw [← wds8, List.length_map]
          obtain ⟨WS, hWS⟩ : ∃ WS, wdsB x = WS := ⟨_, rfl⟩
          rw [hWS] at o3 hst hwl
          have hcnt2 : wcount out + WS.length ≤ 241 := by omega
          clear hwl hcnt
          have b4 : Below V.heap.size V V3 := b2.trans (b3.mono hzV2)
          have hzV3 := b3.size
          have k4 := Kept.of_below b4 0
          have hP3 := hP.below b4
          obtain ⟨⟨v0, r1, r2⟩, ob, hwd⟩ := hP3
          have hP3 : PInv (b0 + 2) b0 (b0 + 1) (b0 + 5) V3 out opn := ⟨⟨_, r1, r2⟩, ob, hwd⟩
          obtain ⟨p0, c0, rfl, -, -⟩ := owns_shape r2
          obtain ⟨pv3, cv3, rfl, -, -⟩ := owns_shape o3
          have h3b := k4.same _ _ h3 (.inl rfl)
          have h4b := k4.same _ _ h4 (.inl rfl)
          have q1 := cell_blk r1 (i := 0) rfl
          have q2 := cell_blk ob (i := 0) rfl
          have l1 := frozen_blk r1 (i := 0)
          have l2 := frozen_blk ob (i := 0)
          clear b1 b2 hV2
          by_cases hw0 : WS = []
          · have hl0 : ((WS.length : Int) == 0) = true := by rw [hw0]; rfl
            rw [if_pos hw0] at hst
            replace hst := hid hst
            replace hw0 := hid hw0
            gi_wp2_with (fail)
            refine ⟨(KeepsB.of_below _ b4).trans (KeepsB.setCell _ ob (hpnN _ (by omega)) _), ?_, ⟨_, _, hP3.drop (by omega) (by omega) false, ?_⟩, (setCell_off (by omega)).trans h3b, (setCell_off (by omega)).trans h4b, (h5.trans (b4.mono (by omega))).setCell (p := ⟨b0 + 1, 0, none⟩) (show n₀ ≤ b0 + 1 by omega) _, by simp [World.setCell]; omega⟩
            · exact ⟨(setCell_off (by omega)).trans (k4.same _ _ hR.1 (.inl rfl)), (setCell_off (by omega)).trans (k4.same _ _ hR.2 (.inl rfl))⟩
            · rw [List.map_append, foldP_app, hfo]
              show (stepP x.data.toList (out.map pt8, opn)).bind _ = _
              rw [hst.out]
              rfl
          · have hl0 : ((WS.length : Int) == 0) = false := beq_eq_false_iff_ne.2 (by have := List.length_pos_iff.2 hw0; omega)
            rw [if_neg hw0] at hst
            cases opn with
            | false =>
              rw [if_neg (by simp)] at hst
              replace hst := hid hst
              obtain ⟨i0, hi, hz0, hz1', hz2'⟩ := info_parts Tryd.infoPt
              have hlen : out.length ≤ 241 := by
                have h1 := foldP_len _ _ _ hfo
                obtain ⟨t, ht⟩ := hadm
                have h2 := cutB_len 10 s.data.toList
                have h3 := congrArg List.length ht
                unfold pcsB at h3
                rw [List.length_map] at h3
                have h4 := size8 s
                simp at h1 h3
                omega
              replace hw0 := hid hw0
              gi_wp2_with (gi_at_builtin; go_must (refine wpListIn_append_own _ rfl _ _ 22 rfl (b0 + 5) 41 i0 (.agg #[.int .i64 0, .slice none 0 0]) 2 32 Tryd.underlying22 hi hz0 hz1' hz2' rfl (by decide) _ _ _ rfl (r2.alloc _) ⟨_, 0, none⟩ 1 1 [.int .i64 1, .slice pv3 WS.length cv3] rfl rfl (cells_newS V3 _ _) (by simp [Value.oneCell']) (by unfold maxLen; omega) (by omega) (by simp; omega) ?_; intro v' w3 hown' hgrow _; obtain ⟨g', cap', rfl⟩ := ownsRow_succ hown'; have y1 := grownA r2 hgrow (show b0 < b0 + 5 by omega) r1; have y2 := grownA r2 hgrow (show b0 + 1 < b0 + 5 by omega) ob; have y3 := grownA r2 hgrow (show n₀ < b0 + 5 by omega) h3b; have y4 := grownA r2 hgrow (show n₀ + 1 < b0 + 5 by omega) h4b; have z1 := frozen_blk y1 (i := 0); have z2 := frozen_blk y2 (i := 0); have c1 := cell_blk y1 (i := 0) rfl; have c2 := cell_blk y2 (i := 0) rfl))
              obtain ⟨q1, q2, q3⟩ := PInv.app hP b4 (k := 1) (ws := WS) (owns_downQ (b' := V2.heap.size) (Nat.le_succ _) o3) (by omega) (by omega) r1 r2 hown' hgrow (show b0 < b0 + 5 by omega) (show b0 + 1 < b0 + 5 by omega) (show b0 ≠ b0 + 1 by omega) (show b0 + 2 < V2.heap.size ∧ b0 + 5 ≤ V2.heap.size by omega) (by omega) true
              refine ⟨((((KeepsB.of_below _ b4).trans (KeepsB.alloc _ _ _)).trans (KeepsB.grown _ (r2.alloc _) (fun k hk => hpn _ (by omega)) hgrow)).trans (KeepsB.setCell _ y1 (hpn _ (by omega)) _)).trans (KeepsB.setCell _ ((setCell_off (by omega)).trans y2) (hpn _ (by omega)) _), ?_, ⟨_, _, q1, ?_⟩, (setCell_off (by omega)).trans ((setCell_off (by omega)).trans y3), (setCell_off (by omega)).trans ((setCell_off (by omega)).trans y4), ?_, by omega⟩
              · exact ⟨(setCell_off (by omega)).trans ((setCell_off (by omega)).trans (grownA r2 hgrow (show b0 + 2 + 1 < b0 + 5 by omega) (k4.same _ _ hR.1 (.inl rfl)))), (setCell_off (by omega)).trans ((setCell_off (by omega)).trans (grownA r2 hgrow (show b0 + 2 + 2 < b0 + 5 by omega) (k4.same _ _ hR.2 (.inl rfl))))⟩
              · rw [List.map_append, foldP_app, hfo]
                show (stepP x.data.toList (out.map pt8, false)).bind _ = _
                rw [hst.out]
                simp [pt8, foldP]
              · exact (((((h5.trans (b4.mono (by omega))).alloc (by omega) _).grown hgrow (by simp; omega) (fun j e => Nat.le_trans (show n₀ ≤ b0 + 5 by omega) (own_base r2 e))).setCell (p := ⟨b0, 0, none⟩) (show n₀ ≤ b0 by omega) _).setCell (p := ⟨b0 + 1, 0, none⟩) (show n₀ ≤ b0 + 1 by omega) _)
            | true =>
              rw [if_pos rfl] at hst
              have hne := foldP_inv _ _ _ (by simp) hfo rfl
              obtain ⟨pre', ⟨k, v, ws⟩, hout⟩ : ∃ pre' p, out = pre' ++ [p] := by
                have : out ≠ [] := by rintro rfl; exact hne rfl
                exact ⟨out.dropLast, out.getLast this, (List.dropLast_concat_getLast this).symm⟩
              subst hout
              have hwm : ws.length + WS.length ≤ 241 := by
                have := wcount_mem (out := pre' ++ [(k, v, ws)]) (p := (k, v, ws)) (by simp)
                simp only at this
                omega
              have hlen : pre'.length ≤ 241 := by
                have h1 := foldP_len _ _ _ hfo
                obtain ⟨t, ht⟩ := hadm
                have h2 := cutB_len 10 s.data.toList
                have h3 := congrArg List.length ht
                unfold pcsB at h3
                rw [List.length_map] at h3
                have h4 := size8 s
                simp at h1 h3
                omega
              replace hst := hid hst
              obtain ⟨lo, hlo, hlo2, hpre, hlast⟩ := hwd
              have ow := hlast _ (List.getLast?_concat ..)
              rw [List.dropLast_concat] at hpre
              simp only at ow
              rw [List.length_append, List.length_singleton] at r1 r2
              have r2' := r2
              obtain ⟨g, cap, heq⟩ := ownsRow_succ r2
              simp only [Value.slice.injEq] at heq
              obtain ⟨rfl, -, rfl⟩ := heq
              obtain ⟨pw, cw, rfl, -, -⟩ := owns_shape ow
              obtain ⟨-, hrr⟩ := r2'
              rcases hrr with ⟨hrr, -⟩ | ⟨g2, cap2, cur, e1, e2, e3, e4, e5, e6, e7⟩
              · cases hrr
              simp only [Value.slice.injEq, Option.some.injEq, Addr.mk.injEq, and_true, true_and] at e1
              obtain ⟨rfl, rfl⟩ := e1
              have hxs : ∀ p : List Pt, (p.flatMap encPt).length = p.length * 2 := fun p => by
                induction p with
                | nil => rfl
                | cons a p ih => rw [List.flatMap_cons, List.length_append, ih]; simp [encPt]; omega
              have hcc : cur[pre'.length * 2 + 1]? = some (.slice pw ws.length cw) := by
                have e8 : (cur.toList.take ((pre'.length + 1) * 2))[pre'.length * 2 + 1]? = some (.slice pw ws.length cw) := by
                  rw [e7, List.flatMap_append, List.getElem?_append_right (by rw [hxs]; omega), hxs, show pre'.length * 2 + 1 - pre'.length * 2 = 1 by omega]; rfl
                rw [List.getElem?_take_of_lt (by omega)] at e8
                simpa using e8
              have x1 : V3.cell? ⟨g, pre'.length * 2 + 1, none⟩ = some (.slice pw ws.length cw) := cell_blk e3 hcc
              have hwr : wrap64 (pre'.length : Int) = (pre'.length : Int) := by unfold wrap64; omega
              obtain ⟨i0, hi, hz0, hz1', hz2'⟩ := info_parts Tryd.infoS
              have sl3 : Sl V3 1 encT (.slice pv3 WS.length cv3) WS := sl_of_owns (fun _ _ => rfl) o3
              have hgv : some g ≠ (Value.slice pw ws.length cw).ownBlock := fun e => by
                rcases ow.2 with ⟨h, _⟩ | ⟨gg, cc, cu, h, -, hh, _⟩
                · rw [h] at e; simp [Value.ownBlock] at e
                · rw [h] at e; simp [Value.ownBlock] at e
                  subst e
                  rw [hh] at e3
                  simp only [Option.some.injEq, Obj.cells.injEq] at e3
                  exact absurd e3.2.1 (by decide)
              clear e7
              gi_wp2_with (gi_at_builtin; go_must (refine wpListIn_append_sl rfl _ _ 37 rfl lo 9 i0 (.string ⟨#[]⟩) 1 16 Tryd.underlying37 hi hz0 hz1' hz2' rfl (by decide) _ _ _ rfl ow encT _ WS rfl sl3 (fun _ _ => ⟨rfl, fun u hu => by obtain rfl := List.mem_singleton.1 hu; rfl⟩) (by unfold maxLen; omega) (by omega) hlo2 ?_; intro v' w3 hown' hgrow _; obtain ⟨p', c', rfl, -, -⟩ := owns_shape hown'; have y0 := (hgrow.block g (Array.getElem?_eq_some_iff.1 e3).1 hgv).trans e3; have z0 := frozen_blk y0 (i := pre'.length * 2 + 1); have z1 := cell_blk y0 (i := pre'.length * 2 + 1) hcc))
              have q1 := PInv.ext hP3 (Below.refl _ V3) r1 r2 ⟨hlo, hlo2, hpre⟩ ow hown' hgrow (show b0 < b0 + 5 by omega) (show b0 + 1 < b0 + 5 by omega) (by omega)
              have gr : ∀ {b : Nat} {o : Obj}, b < b0 + 5 → V3.heap[b]? = some o → (w3.setCell ⟨g, pre'.length * 2 + 1, none⟩ (.slice p' (ws.length + WS.length) c')).heap[b]? = some o := fun hb ho =>
                (setCell_off (by omega)).trans (grown_blk ow hgrow (by omega) ho)
              refine ⟨((KeepsB.of_below _ b4).trans (KeepsB.grown _ ow (fun k hk => hpnN _ (by omega)) hgrow)).trans (KeepsB.setCell _ y0 (hpnN _ (by omega)) _), ?_, ⟨_, _, q1, ?_⟩, gr (by omega) h3b, gr (by omega) h4b, ?_, ?_⟩
              · exact ⟨gr (by omega) (k4.same _ _ hR.1 (.inl rfl)), gr (by omega) (k4.same _ _ hR.2 (.inl rfl))⟩
              · rw [List.map_append, foldP_app, hfo]
                show (stepP x.data.toList ((pre' ++ [(k, _, ws)]).map pt8, true)).bind _ = _
                rw [hst.out]
                simp [pt8, foldP, p8, addLast_snoc]
              · exact (((h5.trans (b4.mono (by omega))).grown hgrow (by omega) (fun j e => Nat.le_trans (show n₀ ≤ lo by omega) (own_base ow e))).setCell (p := ⟨g, pre'.length * 2 + 1, none⟩) (show n₀ ≤ g by omega) _)
              · have := hgrow.size
                simp [World.setCell]; omega
    · rw [if_neg hpl] at hpr
      simp only [hpl, decide_false]
      have f2 := frozen_blk c2 (i := 0)
      have f3 := frozen_blk c3 (i := 0)
      have g2 := cell_blk c2 (i := 0) rfl
      have g3 := cell_blk c3 (i := 0) rfl
      gi_wp2_with (fail)
      exact outParse0 (n₀ := n₀) (v := .slice none 0 0) (n := 15) ((setCell_off (by omega)).trans (setCell_blk c2)) (setCell_blk ((setCell_off (by omega)).trans c3)) rfl rfl
        ⟨_, [], 15, rfl, hpr, World.ownsRow_nil _ _ _ _, by simp, (hB2.setCell (p := ⟨n₀, 0, none⟩) (Nat.le_refl _) _).setCell (p := ⟨n₀ + 1, 0, none⟩) (Nat.le_succ _) _⟩
end Go.Proofs.YtgbfekimflnaiaaDoor
