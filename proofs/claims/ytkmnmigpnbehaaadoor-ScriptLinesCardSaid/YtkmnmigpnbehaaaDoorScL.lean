/- The walk of script's match. -/
import Derived.Test.YtkmnmigpnbehaaaDoorScF
namespace Go.Proofs.YtkmnmigpnbehaaaDoor
open Go.RowKit Go.Shelf Go.Lib
attribute [local go_sem] Oper.semAt_some

/-- the words so far, by a form -/
def preS (f : Int × L8 × L8) : List L8 → Option Op8
  | [] => some (zeroOp f.1)
  | h :: r => if h = f.2.1 then readPre f.2.2 r (zeroOp f.1) else none
theorem preS_one (f : Int × L8 × L8) (w : L8) : preS f [w] = if w = f.2.1 then some (zeroOp f.1) else none := by
  show (if w = f.2.1 then readPre f.2.2 [] (zeroOp f.1) else none) = _
  rw [readPre_nil]
theorem preS_snoc (f : Int × L8 × L8) {pre : List L8} (hp : pre ≠ []) (w : L8) {y : Op8} (h : preS f pre = some y) :
    preS f (pre ++ [w]) = match f.2.2[pre.length - 1]? with | some c => readS y c w | none => none := by
  cases pre with
  | nil => exact absurd rfl hp
  | cons a r =>
    have h : (if a = f.2.1 then readPre f.2.2 r (zeroOp f.1) else none) = some y := h
    show (if a = f.2.1 then readPre f.2.2 (r ++ [w]) (zeroOp f.1) else none) = _
    split at h
    · rename_i ha
      rw [if_pos ha, readPre_snoc, h, Option.bind_some]
      rfl
    · cases h
theorem preS_stop (f : Int × L8 × L8) {pre : List L8} (t : List L8) (h : preS f pre = none) : preS f (pre ++ t) = none := by
  cases pre with
  | nil => cases h
  | cons a r =>
    have h : (if a = f.2.1 then readPre f.2.2 r (zeroOp f.1) else none) = none := h
    show (if a = f.2.1 then readPre f.2.2 (r ++ t) (zeroOp f.1) else none) = none
    split at h
    · rename_i ha
      rw [if_pos ha, readPre_stop t h]
    · rename_i ha
      rw [if_neg ha]
theorem matchS_pre (f : Int × L8 × L8) {ws : List L8} (hw : ws ≠ []) : matchS f ws = if ws.length = f.2.2.length + 1 then preS f ws else none := by
  cases ws with
  | nil => exact absurd rfl hw
  | cons a r =>
    show (if a = f.2.1 then readAll f.2.2 r (zeroOp f.1) else none) = if r.length + 1 = f.2.2.length + 1 then (if a = f.2.1 then readPre f.2.2 r (zeroOp f.1) else none) else none
    by_cases ha : a = f.2.1
    · rw [if_pos ha, if_pos ha, readAll_pre]
      by_cases hl : r.length = f.2.2.length
      · rw [if_pos hl, if_pos (by omega)]
      · rw [if_neg hl, if_neg (by omega)]
    · rw [if_neg ha, if_neg ha]; split <;> rfl
theorem matchS_none (f : Int × L8 × L8) {pre t : List L8} (h : preS f pre = none) : matchS f (pre ++ t) = none := by
  by_cases hw : pre ++ t = []
  · rw [hw]; rfl
  · rw [matchS_pre f hw, preS_stop f t h]; split <;> rfl
theorem readPre_len : ∀ {cs : L8} {ws : List L8} {x y : Op8}, readPre cs ws x = some y → ws.length ≤ cs.length := by
  intro cs ws x y h
  by_cases hl : cs.length < ws.length
  · rw [readPre_long hl] at h; cases h
  · omega

theorem results_rowcell {P : Program} {fn : Func} {p q : Tmp} {t1 t2 : TypeId} (h : fn.results = #[.cell p t1, .cell q t2]) (tmps : Array Value) (w : World) (g1 g2 : Nat) (t : TypeId) (cs : Array Value) (v2 : Value) (d1 d2 : TypeDesc)
    (hp : tmps.getD p undef = .pointer (some ⟨g1, 0, none⟩)) (hq : tmps.getD q undef = .pointer (some ⟨g2, 0, none⟩)) (h1 : w.heap[g1]? = some (.cells cs t (0, 0))) (h2 : w.cell? ⟨g2, 0, none⟩ = some v2)
    (hu1 : P.underlying t1 = some d1) (hd : TypeDesc.isRow d1 = true) (hi : (P.info? t1).map (·.size) = some cs.size)
    (hu2 : P.underlying t2 = some d2) (k2 : d2.isRow = false) : (results fn tmps).run P w = .ok (.tuple #[.agg cs, v2]) w := by
  have hp' : tmps[p]?.getD undef = .pointer (some ⟨g1, 0, none⟩) := by simpa using hp
  have hq' : tmps[q]?.getD undef = .pointer (some ⟨g2, 0, none⟩) := by simpa using hq
  have e2 : (loadVar t2 ⟨g2, 0, none⟩).run P w = .ok v2 w := by
    cases d2 <;> first | (cases k2; done) | simp [loadVar, isAgg, run_underlying hu2, go_sem, h2]
  simp [results, h, hp', hq', asAddr, run_loadVar_row w g1 t t1 cs (0, 0) d1 h1 hu1 (by cases d1 <;> first | rfl | cases hd) hi, e2]

/-- at a return: the two results lie in their boxes, one mark is open -/
theorem outMatch {D n₀ : Nat} {W : World} {tmps : Array Value} {R : Ending → World → Prop} {y : OpB} {b : Bool} (hK : W.heap[D]? = some (.deferred (some [])))
    (h2 : W.heap[n₀]? = some (.cells (opC y) 25 (0, 0))) (h3 : W.heap[n₀ + 1]? = some (.cells #[.bool b] 4 (0, 0)))
    (e2 : tmps.getD 4 undef = .pointer (some ⟨n₀, 0, none⟩)) (e3 : tmps.getD 5 undef = .pointer (some ⟨n₀ + 1, 0, none⟩))
    (hR : R (.returned (.tuple #[opV y, .bool b])) (W.putObj D (.deferred none))) : bodyPostM Fence.wide 0 Tryd.prog Tryd.f15 R .ret { tmps := tmps, defers := [{ target := .collected D, args := #[] }] } W := by
  obtain ⟨d1, hu1, k1⟩ : ∃ d, Tryd.prog.underlying 25 = some d ∧ TypeDesc.isRow d = true := by
    have hk : (Tryd.prog.underlying 25).map TypeDesc.isRow = some true := by kernel_rfl
    obtain ⟨d, h1, h2⟩ := Option.map_eq_some_iff.1 hk
    exact ⟨d, h1, h2⟩
  obtain ⟨d2, hu2, k2⟩ : ∃ d, Tryd.prog.underlying 4 = some d ∧ d.isRow = false := by
    have hk : (Tryd.prog.underlying 4).map TypeDesc.isRow = some false := by kernel_rfl
    obtain ⟨d, h1, h2⟩ := Option.map_eq_some_iff.1 hk
    exact ⟨d, h1, h2⟩
  have hi : (Tryd.prog.info? 25).map (·.size) = some 10 := by kernel_rfl
  refine leave1 hK (fun W' hk => results_rowcell (fn := Tryd.f15) rfl _ W' n₀ (n₀ + 1) 25 (opC y) (.bool b) d1 d2 e2 e3 (hk.same _ _ h2 (.inl rfl)) (cell_blk (i := 0) (hk.same _ _ h3 (.inl rfl)) rfl) hu1 k1 hi hu2 k2) hR

/-- what match answers -/
def MatchE (f : Int × L8 × L8) (s : ByteArray) (n₀ : Nat) (w : World) (e : Ending) (w' : World) : Prop :=
  ∃ (y : OpB) (b : Bool), e = .returned (.tuple #[opV y, .bool b]) ∧ b = (matchS f (cutB 32 s.data.toList)).isSome ∧ (∀ z, matchS f (cutB 32 s.data.toList) = some z → op8 y = z) ∧ Below n₀ w w'

def lst (p : ByteArray × Nat) : L8 := p.1.data.toList
theorem zip_lst (s : ByteArray) : ((pcsB 32 s).zipIdx).map lst = cutB 32 s.data.toList := by
  have h : (((pcsB 32 s).zipIdx).map Prod.fst).map (fun x : ByteArray => x.data.toList) = cutB 32 s.data.toList := by
    rw [List.zipIdx_map_fst]
    unfold pcsB
    rw [List.map_map]
    conv => rhs; rw [← List.map_id (cutB 32 s.data.toList)]
    exact List.map_congr_left fun x _ => toB_list x
  rw [List.map_map] at h
  exact h
def allocs (w : World) : List Obj → World
  | [] => w
  | o :: os => allocs (w.alloc o) os
theorem allocs_size : ∀ (l : List Obj) (w : World), (allocs w l).heap.size = w.heap.size + l.length
  | [], w => rfl
  | o :: os, w => by
    show (allocs (w.alloc o) os).heap.size = _
    rw [allocs_size os, World.size_alloc, List.length_cons]; omega
theorem allocs_below {n : Nat} {w0 : World} : ∀ (l : List Obj) (w : World), Below n w0 w → n ≤ w.heap.size → Below n w0 (allocs w l)
  | [], w, h, _ => h
  | o :: os, w, h, hn => allocs_below os (w.alloc o) (h.alloc hn o) (by rw [World.size_alloc]; omega)
theorem allocs_arr : ∀ (l : List Obj) (w : World), (allocs w l).heap = w.heap ++ l.toArray
  | [], w => by simp [allocs]
  | o :: os, w => by
    show (allocs (w.alloc o) os).heap = _
    rw [allocs_arr os]
    show (w.heap.push o) ++ os.toArray = _
    simp
theorem allocs_heap (l : List Obj) (w : World) (i : Nat) (h : i < l.length) : (allocs w l).heap[w.heap.size + i]? = l[i]? := by
  rw [allocs_arr, Array.getElem?_append_right (by omega)]
  simp
def zOp : OpB := ⟨0, 0, 0, 0, ⟨#[]⟩, 0, 0, 0, 0, 0⟩

theorem lines_sum (c : UInt8) (l : L8) : ((cutB c l).map fun x => x.length + 1).sum = l.length + 1 := by
  induction l with
  | nil => rfl
  | cons x r ih =>
    obtain ⟨h, t, e⟩ := cutB_cons c r
    rw [cutB, e]; rw [e] at ih
    split <;> simp at ih ⊢ <;> omega
theorem lines_mem {c : UInt8} {l y : L8} (h : y ∈ cutB c l) : y.length ≤ l.length := by
  have h1 := lines_sum c l
  have h2 : y.length + 1 ≤ ((cutB c l).map fun x => x.length + 1).sum := by
    generalize cutB c l = L at *
    clear h1
    induction L with
    | nil => cases h
    | cons a L ih =>
      rw [List.map_cons, List.sum_cons]
      rcases List.mem_cons.1 h with rfl | h
      · omega
      · have := ih h; omega
  omega
theorem adm_pair {s : ByteArray} {pre : List (ByteArray × Nat)} {wd : ByteArray} {j : Nat} (h : pre ++ [(wd, j)] <+: (pcsB 32 s).zipIdx) : j = pre.length ∧ wd.size ≤ s.size ∧ pre.length ≤ s.size := by
  have hj : (pcsB 32 s).zipIdx[pre.length]? = some (wd, j) := by
    obtain ⟨t, ht⟩ := h
    rw [← ht, List.append_assoc, List.getElem?_append_right (Nat.le_refl _), Nat.sub_self]; rfl
  rw [List.getElem?_zipIdx] at hj
  obtain ⟨v, hv, he⟩ := Option.map_eq_some_iff.1 hj
  simp only [Prod.mk.injEq, Nat.zero_add] at he
  obtain ⟨rfl, rfl⟩ := he
  have hm : v ∈ pcsB 32 s := List.mem_of_getElem? hv
  refine ⟨rfl, ?_, ?_⟩
  · unfold pcsB at hm
    obtain ⟨y, hy, rfl⟩ := List.mem_map.1 hm
    have := lines_mem hy
    rw [size8] at this
    rw [← size8, toB_list]; exact this
  · have h1 := List.IsPrefix.length_le h
    have h2 := cutB_len 32 s.data.toList
    rw [size8] at h2
    unfold pcsB at h1
    simp at h1
    omega
theorem forms_small : ∀ f ∈ formsL, f.2.2.length ≤ 7 := by decide +kernel
/-- an operation is stored, cell by cell -/
abbrev put10 (w : World) (b : Nat) (x : OpB) : World := ((((((((((w.setCell ⟨b, 0, none⟩ (.int .i64 x.k)).setCell ⟨b, 1, none⟩ (.int .i64 x.r)).setCell ⟨b, 2, none⟩ (.int .i64 x.o)).setCell ⟨b, 3, none⟩ (.int .i64 x.n)).setCell ⟨b, 4, none⟩ (.string x.s)).setCell ⟨b, 5, none⟩ (.int .i64 x.w)).setCell ⟨b, 6, none⟩ (.int .i64 x.h)).setCell ⟨b, 7, none⟩ (.int .i64 x.t)).setCell ⟨b, 8, none⟩ (.int .i64 x.c)).setCell ⟨b, 9, none⟩ (.int .i64 x.i))
set_option maxHeartbeats 1000000 in
theorem put10_here {w : World} {b : Nat} {x y : OpB} {t : TypeId} (h : w.heap[b]? = some (.cells (opC y) t (0, 0))) : (put10 w b x).heap[b]? = some (.cells (opC x) t (0, 0)) := by
  have e : ∀ (w : World) (cs : Array Value) (i : Nat) (v : Value), w.heap[b]? = some (.cells cs t (0, 0)) → (w.setCell ⟨b, i, none⟩ v).heap[b]? = some (.cells (cs.setIfInBounds i v) t (0, 0)) := fun w cs i v h => setCell_blk h
  refine Eq.trans (e _ _ 9 _ (e _ _ 8 _ (e _ _ 7 _ (e _ _ 6 _ (e _ _ 5 _ (e _ _ 4 _ (e _ _ 3 _ (e _ _ 2 _ (e _ _ 1 _ (e _ _ 0 _ h)))))))))) ?_
  simp only [opC, List.setIfInBounds_toArray, List.set_cons_zero, List.set_cons_succ]
theorem put10_off {w : World} {b k : Nat} {x : OpB} (h : k ≠ b) : (put10 w b x).heap[k]? = w.heap[k]? := by
  unfold put10
  rw [setCell_off h, setCell_off h, setCell_off h, setCell_off h, setCell_off h, setCell_off h, setCell_off h, setCell_off h, setCell_off h, setCell_off h]
theorem put10_below {n : Nat} {w0 w : World} {b : Nat} {x : OpB} (h : Below n w0 w) (hb : n ≤ b) : Below n w0 (put10 w b x) :=
  ((((((((((h.setCell (p := ⟨b, 0, none⟩) hb _).setCell (p := ⟨b, 1, none⟩) hb _).setCell (p := ⟨b, 2, none⟩) hb _).setCell (p := ⟨b, 3, none⟩) hb _).setCell (p := ⟨b, 4, none⟩) hb _).setCell (p := ⟨b, 5, none⟩) hb _).setCell (p := ⟨b, 6, none⟩) hb _).setCell (p := ⟨b, 7, none⟩) hb _).setCell (p := ⟨b, 8, none⟩) hb _).setCell (p := ⟨b, 9, none⟩) hb _)
theorem put10_keeps (M B : Nat) {w : World} {b : Nat} {x y : OpB} {t : TypeId} (h : w.heap[b]? = some (.cells (opC y) t (0, 0))) (hb : b < B) : KeepsM M B w (put10 w b x) :=
  ⟨by simp [put10, World.setCell], fun k o hk hh ho => (put10_off (by omega)).trans hh⟩
theorem KeepsM.of_below (M B : Nat) {W W' : World} (h : Below W.heap.size W W') : KeepsM M B W W' := ⟨h.size, fun k _ _ hk _ => (h.block k (Array.getElem?_eq_some_iff.1 hk).1).trans hk⟩
/-- what match lays ahead of its loop -/
def objsM (f : Int × L8 × L8) : List Obj := [.cells (encFm f).toArray 50, .cells (opC zOp) 25, .cells #[.bool false] 4, .cells (opC { zOp with k := f.1 }) 25, .cells #[.int .i64 0] 3]
def MInv (n₀ : Nat) (f : Int × L8 × L8) (w : World) (pre : List (ByteArray × Nat)) (y : OpB) (V : World) : Prop :=
  V.heap[n₀]? = some (.cells (encFm f).toArray 50 (0, 0)) ∧ V.heap[n₀ + 1]? = some (.cells (opC zOp) 25 (0, 0)) ∧ V.heap[n₀ + 1 + 1]? = some (.cells #[.bool false] 4 (0, 0)) ∧
  V.heap[n₀ + 1 + 1 + 1]? = some (.cells (opC y) 25 (0, 0)) ∧ V.heap[n₀ + 1 + 1 + 1 + 1]? = some (.cells #[.int .i64 pre.length] 3 (0, 0)) ∧ preS f (pre.map lst) = some (op8 y) ∧ Below n₀ w V ∧ n₀ + 6 ≤ V.heap.size

set_option maxRecDepth 100000 in
set_option maxHeartbeats 8000000 in
theorem match_any (f : Int × L8 × L8) (hf : f ∈ formsL) (s : ByteArray) (w : World) (hs : s.size ≤ 1000000) (hT : STabs w) :
    Calls Tryd.prog 15 #[.agg (encFm f).toArray, .string s] w fun e w' => MatchE f s w.heap.size w e w' := by
  refine calls_of_marks Tryd.func15 rfl ?_
  simp only [Tryd.ntmps15, List.size_toArray, List.length_cons, List.length_nil, Nat.reduceAdd, Nat.reduceSub, Array.replicate_succ, Array.replicate_zero, List.push_toArray, List.append_toArray, List.nil_append, List.cons_append]
  obtain ⟨n₀, hn₀⟩ : ∃ n, w.heap.size = n := ⟨_, rfl⟩
  have hR0 : (fun e w' => MatchE f s w.heap.size w e w') = fun e w' => MatchE f s n₀ w e w' := by rw [hn₀]
  rw [hR0]
  clear hR0
  obtain ⟨k, nm, has⟩ := f
  unfold encFm
  gi_wp2_with (fail)
  have h0 := allocs_heap (objsM (k, nm, has)) w 0 (by simp [objsM])
  have h1 := allocs_heap (objsM (k, nm, has)) w 1 (by simp [objsM])
  have h2 := allocs_heap (objsM (k, nm, has)) w 2 (by simp [objsM])
  have h3 := allocs_heap (objsM (k, nm, has)) w 3 (by simp [objsM])
  have h4 := allocs_heap (objsM (k, nm, has)) w 4 (by simp [objsM])
  have hz := allocs_size (objsM (k, nm, has)) w
  have hB := allocs_below (objsM (k, nm, has)) w (Below.refl w.heap.size w) (Nat.le_refl _)
  rw [show (objsM (k, nm, has)).length = 5 from rfl] at hz
  change _ ∧ _ ∧ CallsIn _ _ _ _ _ (allocs w (objsM (k, nm, has))) _
  rw [hn₀] at h0 h1 h2 h3 h4 hz hB
  generalize allocs w (objsM (k, nm, has)) = W1 at *
  refine ⟨trivial, rfl, (callsIn_wide.2 (swords_any s W1)).mono ?_⟩
  rintro e W2 ⟨rfl, rfl⟩
  rw [hz]
  have kA := Kept.alloc 0 W1 (.cells #[.string s] 9)
  have h5 := World.alloc_heap_new W1 (.cells #[.string s] 9)
  rw [hz] at h5
  replace h0 := kA.same _ _ h0 (.inl rfl)
  replace h1 := kA.same _ _ h1 (.inl rfl)
  replace h2 := kA.same _ _ h2 (.inl rfl)
  replace h3 := kA.same _ _ h3 (.inl rfl)
  replace h4 := kA.same _ _ h4 (.inl rfl)
  replace hB := hB.alloc (by omega) (.cells #[.string s] 9)
  have hz2 : (W1.alloc (.cells #[.string s] 9)).heap.size = n₀ + 6 := by rw [World.size_alloc, hz]
  clear kA hz
  generalize W1.alloc (.cells #[.string s] 9) = W2 at *
  gi_wp2_with (fail)
  refine range_pQ (act := ?mk) rfl (enters_of Tryd.func31 (by kernel_rfl) rfl) (swords1_seq s hs (n₀ + 5)) (fun _ => rfl)
    (fun _ pre V => ∃ y, MInv n₀ (k, nm, has) w pre y V) (fun V => ∃ y, MInv n₀ (k, nm, has) w [] y V)
    (fun c pre V => c = .ret ∧ preS (k, nm, has) (pre.map lst) = none ∧ (∃ t, pre ++ t = (pcsB 32 s).zipIdx) ∧ V.heap[n₀ + 1]? = some (.cells (opC zOp) 25 (0, 0)) ∧ V.heap[n₀ + 1 + 1]? = some (.cells #[.bool false] 4 (0, 0)) ∧ Below n₀ w V)
    ?hI ?hI0 (fun _ _ h _ _ => h) ?hIx (fun B A C hk h => hk.same _ _ h (.inl rfl)) (fun _ _ => St.pure _) (fun _ => St.pure _) (fun _ => St.pure _) ?h0 h5 ?assign ?body ?done ?stop
  case assign =>
    intro l x W K hK
    dsimp only [pairEnc]
    gi_wp2
    exact hK
  case hI =>
    rintro M p A C hk ⟨y, h0, h1, h2, h3, h4, h5, h6, h7⟩
    have hn : ∀ j, j < n₀ + 6 → inM W2.heap.size M j = false := fun j hj => by simp only [inM, hz2, Bool.and_eq_false_iff, decide_eq_false_iff_not]; omega
    exact ⟨y, hk.same _ _ h0 (hn _ (by omega)) (.inl rfl), hk.same _ _ h1 (hn _ (by omega)) (.inl rfl), hk.same _ _ h2 (hn _ (by omega)) (.inl rfl), hk.same _ _ h3 (hn _ (by omega)) (.inl rfl), hk.same _ _ h4 (hn _ (by omega)) (.inl rfl), h5, hk.below (by omega) (by omega) (fun j hj => hn j (by omega)) h6, Nat.le_trans h7 hk.size⟩
  case hI0 =>
    rintro A C hk ⟨y, h0, h1, h2, h3, h4, h5, h6, h7⟩
    exact ⟨y, hk.same _ _ h0 (.inl rfl), hk.same _ _ h1 (.inl rfl), hk.same _ _ h2 (.inl rfl), hk.same _ _ h3 (.inl rfl), hk.same _ _ h4 (.inl rfl), h5, hk.below (by omega) (by omega) h6, Nat.le_trans h7 hk.size⟩
  case hIx =>
    rintro c p A C hk ⟨h0, h1, h2, h3, h4, h5⟩
    have hn : ∀ j, j < n₀ + 6 → fromM W2.heap.size j = false := fun j hj => by simp only [fromM, hz2, decide_eq_false_iff_not]; omega
    exact ⟨h0, h1, h2, hk.same _ _ h3 (hn _ (by omega)) (.inl rfl), hk.same _ _ h4 (hn _ (by omega)) (.inl rfl), hk.below (by omega) (by omega) (fun j hj => hn j (by omega)) h5⟩
  case h0 =>
    exact ⟨⟨k, 0, 0, 0, ⟨#[]⟩, 0, 0, 0, 0, 0⟩, h0, h1, h2, h3, h4, rfl, hB, by omega⟩
  case stop =>
    rintro D c pre W hD _ ⟨rfl, e1, ⟨t, e2⟩, e3, e4, e5⟩ hK
    gi_wp2
    refine outMatch (n₀ := n₀ + 1) (y := zOp) (b := false) hK e3 e4 rfl rfl ?_
    have e6 := congrArg (List.map lst) e2
    rw [zip_lst, List.map_append] at e6
    have e7 := matchS_none (k, nm, has) (t := t.map lst) e1
    rw [e6] at e7
    refine ⟨zOp, false, rfl, by rw [e7]; rfl, fun z hz => (by rw [e7] at hz; cases hz), ?_⟩
    exact (Kept.putObj (B := n₀) (.deferred none) (by omega) hK rfl).below (by omega) (by omega) e5
  case done =>
    rintro D M ys W hD rfl ⟨y, e0, e1, e2, e3, e4, e5, e6, e7⟩ hR hK
    have hwl : ((pcsB 32 s).zipIdx).length = (cutB 32 s.data.toList).length := by rw [← zip_lst, List.length_map]
    have hwb : (cutB 32 s.data.toList).length ≤ s.size + 1 := by have := cutB_len 32 s.data.toList; rw [size8] at this; exact this
    rw [zip_lst] at e5
    rw [hwl] at e4
    have hmp := matchS_pre (k, nm, has) (cutB_ne 32 s.data.toList)
    rw [e5] at hmp
    have hhb : has.length ≤ 7 := forms_small _ hf
    have g0 : W.cell? ⟨n₀ + 1 + 1 + 1, 0, none⟩ = some (.int .i64 y.k) := cell_blk (i := 0) e3 rfl
    have g1 : W.cell? ⟨n₀ + 1 + 1 + 1, 1, none⟩ = some (.int .i64 y.r) := cell_blk (i := 1) e3 rfl
    have g2 : W.cell? ⟨n₀ + 1 + 1 + 1, 2, none⟩ = some (.int .i64 y.o) := cell_blk (i := 2) e3 rfl
    have g3 : W.cell? ⟨n₀ + 1 + 1 + 1, 3, none⟩ = some (.int .i64 y.n) := cell_blk (i := 3) e3 rfl
    have g4 : W.cell? ⟨n₀ + 1 + 1 + 1, 4, none⟩ = some (.string y.s) := cell_blk (i := 4) e3 rfl
    have g5 : W.cell? ⟨n₀ + 1 + 1 + 1, 5, none⟩ = some (.int .i64 y.w) := cell_blk (i := 5) e3 rfl
    have g6 : W.cell? ⟨n₀ + 1 + 1 + 1, 6, none⟩ = some (.int .i64 y.h) := cell_blk (i := 6) e3 rfl
    have g7 : W.cell? ⟨n₀ + 1 + 1 + 1, 7, none⟩ = some (.int .i64 y.t) := cell_blk (i := 7) e3 rfl
    have g8 : W.cell? ⟨n₀ + 1 + 1 + 1, 8, none⟩ = some (.int .i64 y.c) := cell_blk (i := 8) e3 rfl
    have g9 : W.cell? ⟨n₀ + 1 + 1 + 1, 9, none⟩ = some (.int .i64 y.i) := cell_blk (i := 9) e3 rfl
    have z0 : W.cell? ⟨n₀ + 1, 0, none⟩ = some (.int .i64 0) := cell_blk (i := 0) e1 rfl
    have z1 : W.cell? ⟨n₀ + 1, 1, none⟩ = some (.int .i64 0) := cell_blk (i := 1) e1 rfl
    have z2 : W.cell? ⟨n₀ + 1, 2, none⟩ = some (.int .i64 0) := cell_blk (i := 2) e1 rfl
    have z3 : W.cell? ⟨n₀ + 1, 3, none⟩ = some (.int .i64 0) := cell_blk (i := 3) e1 rfl
    have z4 : W.cell? ⟨n₀ + 1, 4, none⟩ = some (.string ⟨#[]⟩) := cell_blk (i := 4) e1 rfl
    have z5 : W.cell? ⟨n₀ + 1, 5, none⟩ = some (.int .i64 0) := cell_blk (i := 5) e1 rfl
    have z6 : W.cell? ⟨n₀ + 1, 6, none⟩ = some (.int .i64 0) := cell_blk (i := 6) e1 rfl
    have z7 : W.cell? ⟨n₀ + 1, 7, none⟩ = some (.int .i64 0) := cell_blk (i := 7) e1 rfl
    have z8 : W.cell? ⟨n₀ + 1, 8, none⟩ = some (.int .i64 0) := cell_blk (i := 8) e1 rfl
    have z9 : W.cell? ⟨n₀ + 1, 9, none⟩ = some (.int .i64 0) := cell_blk (i := 9) e1 rfl
    have z10 : W.cell? ⟨n₀ + 1 + 1, 0, none⟩ = some (.bool false) := cell_blk (i := 0) e2 rfl
    have fr := fun i => frozen_blk e1 (i := i)
    have fb := frozen_blk e2 (i := 0)
    have gn := cell_blk (i := 0) e4 rfl
    have gf : W.cell? ⟨n₀, 2, none⟩ = some (.string ⟨has.toArray⟩) := cell_blk (i := 2) e0 rfl
    obtain ⟨hB, hhB⟩ : ∃ b : ByteArray, (⟨has.toArray⟩ : ByteArray) = b := ⟨_, rfl⟩
    have hBz : hB.size = has.length := by rw [← hhB]; simp [ByteArray.size]
    rw [hhB] at gf
    have hw1 : IntKind.i64.wrap ((hB.size : Int) + 1) = (hB.size : Int) + 1 := by rw [IntKind.wrap_i64]; omega
    replace hBz := hid hBz
    obtain ⟨LL, hLL⟩ : ∃ n, (cutB 32 s.data.toList).length = n := ⟨_, rfl⟩
    rw [hLL] at gn hmp
    obtain ⟨eb, heb⟩ : ∃ b : Bool, ((LL : Int) == (hB.size : Int) + 1) = b := ⟨_, rfl⟩
    have hfin1 : eb = (matchS (k, nm, has) (cutB 32 s.data.toList)).isSome := by
      rw [hmp, ← heb, hBz.out]
      by_cases h : LL = has.length + 1
      · rw [if_pos h, h]; simp
      · rw [if_neg h]; simp only [Option.isSome_none, beq_eq_false_iff_ne]; omega
    have hfin2 : ∀ z, matchS (k, nm, has) (cutB 32 s.data.toList) = some z → op8 y = z := by
      intro z hz
      rw [hmp] at hz
      split at hz
      · exact Option.some.inj hz
      · cases hz
    have hfin3 : ∀ V : World, V.heap[D]? = some (.deferred (some [])) → Below n₀ w V → Below n₀ w (V.drew.putObj D (.deferred none)) := fun V hV h => (Kept.putObj (B := n₀) (A := V.drew) (.deferred none) (by omega) hV rfl).below (by omega) (by omega) (h.drewN 1)
    replace hmp := hid hmp
    replace hfin1 := hid hfin1
    replace hfin2 := hid hfin2
    gi_wp2_with (fail)
    have L1 : ((put10 W (n₀ + 1) y).setCell ⟨n₀ + 1 + 1, 0, none⟩ (.bool eb)).heap[n₀ + 1]? = some (.cells (opC y) 25 (0, 0)) := (setCell_off (by omega)).trans (put10_here (x := y) e1)
    have L2 : ((put10 W (n₀ + 1) y).setCell ⟨n₀ + 1 + 1, 0, none⟩ (.bool eb)).heap[n₀ + 1 + 1]? = some (.cells #[.bool eb] 4 (0, 0)) := setCell_blk ((put10_off (x := y) (by omega)).trans e2)
    have L3 : ((put10 W (n₀ + 1) y).setCell ⟨n₀ + 1 + 1, 0, none⟩ (.bool eb)).heap[D]? = some (.deferred (some [])) := (setCell_off (by omega)).trans ((put10_off (x := y) (by omega)).trans hK)
    have L4 : Below n₀ w ((put10 W (n₀ + 1) y).setCell ⟨n₀ + 1 + 1, 0, none⟩ (.bool eb)) := (put10_below (x := y) e6 (by omega)).setCell (p := ⟨n₀ + 1 + 1, 0, none⟩) (show n₀ ≤ n₀ + 1 + 1 by omega) _
    replace L1 := hid L1
    replace L2 := hid L2
    replace L3 := hid L3
    replace L4 := hid L4
    refine wpIn_mono (Q := Nrm fun _ a V => a.defers = [{ target := .collected D, args := #[] }] ∧ a.tmps.getD 4 undef = .pointer (some ⟨n₀ + 1, 0, none⟩) ∧ a.tmps.getD 5 undef = .pointer (some ⟨n₀ + 1 + 1, 0, none⟩) ∧
      V = ((put10 W (n₀ + 1) y).setCell ⟨n₀ + 1 + 1, 0, none⟩ (.bool eb)).drew) ?reg ?cont
    case cont =>
      intro e a V h
      cases e <;> first | exact h.elim | skip
      obtain ⟨h1, h2, h3, h4⟩ := h
      obtain ⟨tm, df⟩ := a
      subst h1
      clear z0 z1 z2 z3 z4 z5 z6 z7 z8 z9 z10 g0 g1 g2 g3 g4 g5 g6 g7 g8 g9 fr fb gn gf
      have L5 := hid (L4.out.drewN 1)
      generalize (put10 W (n₀ + 1) y).setCell ⟨n₀ + 1 + 1, 0, none⟩ (.bool eb) = X at *
      replace h4 := hid h4
      gi_wp2_with (fail)
      subst h4
      exact outMatch (n₀ := n₀ + 1) (y := y) (b := eb) L3.out L1.out L2.out h2 h3 ⟨y, eb, rfl, hfin1.out, hfin2.out, (Kept.putObj (B := n₀) (l := D) (.deferred none) (show n₀ ≤ D by omega) (show X.drew.heap[D]? = _ from L3.out) rfl).below (Nat.le_refl n₀) (Nat.le_of_eq hn₀.symm) L5.out⟩
    case reg =>
      refine wpIn_region_any (by kernel_rfl) ?_
      try (change wpAnyIn _ _ _ _ _ _ _ _ _ (World.drew _))
      refine wpAnyIn_take (i := 2) (oi := ⟨some 46, _, _, _, _, _⟩) (v := ?_) rfl rfl (by kernel_rfl) (by kernel_rfl) (by kernel_rfl) (fun _ _ _ h => h) ⟨Or.inl ⟨by rfl, ?_⟩, fun _ => rfl⟩ ?_
      rotate_left
      · intro w; go_simp <;> with_reducible rfl
      try simp only [Act.put, List.setIfInBounds_toArray, List.set_cons_zero, List.set_cons_succ]
      refine wpAnyIn_ready (rs := [0, 1, 3]) (by kernel_rfl) (by simp) ?_
      refine AllReadyIn.cons rfl (fun K hK => ?_) ?_
      · go_simp
        first | refine hK _ _ ?_ | refine ⟨trivial, hK _ _ ?_⟩ | refine ⟨fun _ _ => trivial, hK _ _ ?_⟩
        clear hK K
        refine wpAnyIn_ready (rs := [1, 3, 7]) (by kernel_rfl) (by simp) ?_
        refine AllReadyIn.cons rfl (fun K hK => ?_) ?_
        · go_simp
          first | refine hK _ _ ?_ | refine ⟨trivial, hK _ _ ?_⟩ | refine ⟨fun _ _ => trivial, hK _ _ ?_⟩
          clear hK K
          refine wpAnyIn_ready (rs := [3, 7]) (by kernel_rfl) (by simp) ?_
          refine AllReadyIn.cons rfl (fun K hK => ?_) ?_
          · go_simp
            first | refine hK _ _ ?_ | refine ⟨trivial, hK _ _ ?_⟩ | refine ⟨fun _ _ => trivial, hK _ _ ?_⟩
            clear hK K
            refine wpAnyIn_take (i := 4) (oi := ⟨some 48, _, _, _, _, _⟩) (v := ?_) rfl rfl (by kernel_rfl) (by kernel_rfl) (by kernel_rfl) (fun _ _ _ h => h) ⟨Or.inl ⟨by rfl, ?_⟩, fun _ => rfl⟩ ?_
            rotate_left
            · intro w; go_simp <;> with_reducible rfl
            try simp only [Act.put, List.setIfInBounds_toArray, List.set_cons_zero, List.set_cons_succ]
            refine wpAnyIn_take (i := 5) (oi := ⟨some 49, _, _, _, _, _⟩) (v := ?_) rfl rfl (by kernel_rfl) (by kernel_rfl) (by kernel_rfl) (fun _ _ _ h => h) ⟨Or.inl ⟨by rfl, ?_⟩, fun _ => rfl⟩ ?_
            rotate_left
            · intro w; go_simp <;> with_reducible rfl
            try simp only [Act.put, List.setIfInBounds_toArray, List.set_cons_zero, List.set_cons_succ]
            refine wpAnyIn_take (i := 6) (oi := ⟨some 50, _, _, _, _, _⟩) (v := ?_) rfl rfl (by kernel_rfl) (by kernel_rfl) (by kernel_rfl) (fun _ _ _ h => h) ⟨Or.inl ⟨by rfl, ?_⟩, fun _ => rfl⟩ ?_
            rotate_left
            · intro w; go_simp <;> with_reducible rfl
            try simp only [Act.put, List.setIfInBounds_toArray, List.set_cons_zero, List.set_cons_succ]
            refine wpAnyIn_ready (rs := [7]) (by kernel_rfl) (by simp) ?_
            refine AllReadyIn.cons rfl (fun K hK => ?_) AllReadyIn.nil
            go_simp
            first | refine hK _ _ ?_ | refine ⟨trivial, hK _ _ ?_⟩ | refine ⟨fun _ _ => trivial, hK _ _ ?_⟩
            clear hK K
            refine wpAnyIn_ready (rs := [8]) (by kernel_rfl) (by simp) ?_
            refine AllReadyIn.cons rfl (fun K hK => ?_) AllReadyIn.nil
            go_simp
            first | refine hK _ _ ?_ | refine ⟨trivial, hK _ _ ?_⟩ | refine ⟨fun _ _ => trivial, hK _ _ ?_⟩
            clear hK K
            refine wpAnyIn_done (by kernel_rfl) ?_ _
            exact ⟨rfl, rfl, rfl, rfl⟩
          refine AllReadyIn.cons rfl (fun K hK => ?_) AllReadyIn.nil
          go_simp
          first | refine hK _ _ ?_ | refine ⟨trivial, hK _ _ ?_⟩ | refine ⟨fun _ _ => trivial, hK _ _ ?_⟩
          clear hK K
          refine wpAnyIn_ready (rs := [3]) (by kernel_rfl) (by simp) ?_
          refine AllReadyIn.cons rfl (fun K hK => ?_) AllReadyIn.nil
          go_simp
          first | refine hK _ _ ?_ | refine ⟨trivial, hK _ _ ?_⟩ | refine ⟨fun _ _ => trivial, hK _ _ ?_⟩
          clear hK K
          refine wpAnyIn_take (i := 4) (oi := ⟨some 48, _, _, _, _, _⟩) (v := ?_) rfl rfl (by kernel_rfl) (by kernel_rfl) (by kernel_rfl) (fun _ _ _ h => h) ⟨Or.inl ⟨by rfl, ?_⟩, fun _ => rfl⟩ ?_
          rotate_left
          · intro w; go_simp <;> with_reducible rfl
          try simp only [Act.put, List.setIfInBounds_toArray, List.set_cons_zero, List.set_cons_succ]
          refine wpAnyIn_take (i := 5) (oi := ⟨some 49, _, _, _, _, _⟩) (v := ?_) rfl rfl (by kernel_rfl) (by kernel_rfl) (by kernel_rfl) (fun _ _ _ h => h) ⟨Or.inl ⟨by rfl, ?_⟩, fun _ => rfl⟩ ?_
          rotate_left
          · intro w; go_simp <;> with_reducible rfl
          try simp only [Act.put, List.setIfInBounds_toArray, List.set_cons_zero, List.set_cons_succ]
          refine wpAnyIn_take (i := 6) (oi := ⟨some 50, _, _, _, _, _⟩) (v := ?_) rfl rfl (by kernel_rfl) (by kernel_rfl) (by kernel_rfl) (fun _ _ _ h => h) ⟨Or.inl ⟨by rfl, ?_⟩, fun _ => rfl⟩ ?_
          rotate_left
          · intro w; go_simp <;> with_reducible rfl
          try simp only [Act.put, List.setIfInBounds_toArray, List.set_cons_zero, List.set_cons_succ]
          refine wpAnyIn_ready (rs := [8]) (by kernel_rfl) (by simp) ?_
          refine AllReadyIn.cons rfl (fun K hK => ?_) AllReadyIn.nil
          go_simp
          first | refine hK _ _ ?_ | refine ⟨trivial, hK _ _ ?_⟩ | refine ⟨fun _ _ => trivial, hK _ _ ?_⟩
          clear hK K
          refine wpAnyIn_done (by kernel_rfl) ?_ _
          exact ⟨rfl, rfl, rfl, rfl⟩
        refine AllReadyIn.cons rfl (fun K hK => ?_) ?_
        · go_simp
          first | refine hK _ _ ?_ | refine ⟨trivial, hK _ _ ?_⟩ | refine ⟨fun _ _ => trivial, hK _ _ ?_⟩
          clear hK K
          refine wpAnyIn_take (i := 4) (oi := ⟨some 48, _, _, _, _, _⟩) (v := ?_) rfl rfl (by kernel_rfl) (by kernel_rfl) (by kernel_rfl) (fun _ _ _ h => h) ⟨Or.inl ⟨by rfl, ?_⟩, fun _ => rfl⟩ ?_
          rotate_left
          · intro w; go_simp <;> with_reducible rfl
          try simp only [Act.put, List.setIfInBounds_toArray, List.set_cons_zero, List.set_cons_succ]
          refine wpAnyIn_take (i := 5) (oi := ⟨some 49, _, _, _, _, _⟩) (v := ?_) rfl rfl (by kernel_rfl) (by kernel_rfl) (by kernel_rfl) (fun _ _ _ h => h) ⟨Or.inl ⟨by rfl, ?_⟩, fun _ => rfl⟩ ?_
          rotate_left
          · intro w; go_simp <;> with_reducible rfl
          try simp only [Act.put, List.setIfInBounds_toArray, List.set_cons_zero, List.set_cons_succ]
          refine wpAnyIn_ready (rs := [1, 7]) (by kernel_rfl) (by simp) ?_
          refine AllReadyIn.cons rfl (fun K hK => ?_) ?_
          · go_simp
            first | refine hK _ _ ?_ | refine ⟨trivial, hK _ _ ?_⟩ | refine ⟨fun _ _ => trivial, hK _ _ ?_⟩
            clear hK K
            refine wpAnyIn_take (i := 6) (oi := ⟨some 50, _, _, _, _, _⟩) (v := ?_) rfl rfl (by kernel_rfl) (by kernel_rfl) (by kernel_rfl) (fun _ _ _ h => h) ⟨Or.inl ⟨by rfl, ?_⟩, fun _ => rfl⟩ ?_
            rotate_left
            · intro w; go_simp <;> with_reducible rfl
            try simp only [Act.put, List.setIfInBounds_toArray, List.set_cons_zero, List.set_cons_succ]
            refine wpAnyIn_ready (rs := [7]) (by kernel_rfl) (by simp) ?_
            refine AllReadyIn.cons rfl (fun K hK => ?_) AllReadyIn.nil
            go_simp
            first | refine hK _ _ ?_ | refine ⟨trivial, hK _ _ ?_⟩ | refine ⟨fun _ _ => trivial, hK _ _ ?_⟩
            clear hK K
            refine wpAnyIn_ready (rs := [8]) (by kernel_rfl) (by simp) ?_
            refine AllReadyIn.cons rfl (fun K hK => ?_) AllReadyIn.nil
            go_simp
            first | refine hK _ _ ?_ | refine ⟨trivial, hK _ _ ?_⟩ | refine ⟨fun _ _ => trivial, hK _ _ ?_⟩
            clear hK K
            refine wpAnyIn_done (by kernel_rfl) ?_ _
            exact ⟨rfl, rfl, rfl, rfl⟩
          refine AllReadyIn.cons rfl (fun K hK => ?_) AllReadyIn.nil
          go_simp
          first | refine hK _ _ ?_ | refine ⟨trivial, hK _ _ ?_⟩ | refine ⟨fun _ _ => trivial, hK _ _ ?_⟩
          clear hK K
          refine wpAnyIn_ready (rs := [1]) (by kernel_rfl) (by simp) ?_
          refine AllReadyIn.cons rfl (fun K hK => ?_) AllReadyIn.nil
          go_simp
          first | refine hK _ _ ?_ | refine ⟨trivial, hK _ _ ?_⟩ | refine ⟨fun _ _ => trivial, hK _ _ ?_⟩
          clear hK K
          refine wpAnyIn_take (i := 6) (oi := ⟨some 50, _, _, _, _, _⟩) (v := ?_) rfl rfl (by kernel_rfl) (by kernel_rfl) (by kernel_rfl) (fun _ _ _ h => h) ⟨Or.inl ⟨by rfl, ?_⟩, fun _ => rfl⟩ ?_
          rotate_left
          · intro w; go_simp <;> with_reducible rfl
          try simp only [Act.put, List.setIfInBounds_toArray, List.set_cons_zero, List.set_cons_succ]
          refine wpAnyIn_ready (rs := [8]) (by kernel_rfl) (by simp) ?_
          refine AllReadyIn.cons rfl (fun K hK => ?_) AllReadyIn.nil
          go_simp
          first | refine hK _ _ ?_ | refine ⟨trivial, hK _ _ ?_⟩ | refine ⟨fun _ _ => trivial, hK _ _ ?_⟩
          clear hK K
          refine wpAnyIn_done (by kernel_rfl) ?_ _
          exact ⟨rfl, rfl, rfl, rfl⟩
        refine AllReadyIn.cons rfl (fun K hK => ?_) AllReadyIn.nil
        go_simp
        first | refine hK _ _ ?_ | refine ⟨trivial, hK _ _ ?_⟩ | refine ⟨fun _ _ => trivial, hK _ _ ?_⟩
        clear hK K
        refine wpAnyIn_ready (rs := [1, 3]) (by kernel_rfl) (by simp) ?_
        refine AllReadyIn.cons rfl (fun K hK => ?_) ?_
        · go_simp
          first | refine hK _ _ ?_ | refine ⟨trivial, hK _ _ ?_⟩ | refine ⟨fun _ _ => trivial, hK _ _ ?_⟩
          clear hK K
          refine wpAnyIn_ready (rs := [3]) (by kernel_rfl) (by simp) ?_
          refine AllReadyIn.cons rfl (fun K hK => ?_) AllReadyIn.nil
          go_simp
          first | refine hK _ _ ?_ | refine ⟨trivial, hK _ _ ?_⟩ | refine ⟨fun _ _ => trivial, hK _ _ ?_⟩
          clear hK K
          refine wpAnyIn_take (i := 4) (oi := ⟨some 48, _, _, _, _, _⟩) (v := ?_) rfl rfl (by kernel_rfl) (by kernel_rfl) (by kernel_rfl) (fun _ _ _ h => h) ⟨Or.inl ⟨by rfl, ?_⟩, fun _ => rfl⟩ ?_
          rotate_left
          · intro w; go_simp <;> with_reducible rfl
          try simp only [Act.put, List.setIfInBounds_toArray, List.set_cons_zero, List.set_cons_succ]
          refine wpAnyIn_take (i := 5) (oi := ⟨some 49, _, _, _, _, _⟩) (v := ?_) rfl rfl (by kernel_rfl) (by kernel_rfl) (by kernel_rfl) (fun _ _ _ h => h) ⟨Or.inl ⟨by rfl, ?_⟩, fun _ => rfl⟩ ?_
          rotate_left
          · intro w; go_simp <;> with_reducible rfl
          try simp only [Act.put, List.setIfInBounds_toArray, List.set_cons_zero, List.set_cons_succ]
          refine wpAnyIn_take (i := 6) (oi := ⟨some 50, _, _, _, _, _⟩) (v := ?_) rfl rfl (by kernel_rfl) (by kernel_rfl) (by kernel_rfl) (fun _ _ _ h => h) ⟨Or.inl ⟨by rfl, ?_⟩, fun _ => rfl⟩ ?_
          rotate_left
          · intro w; go_simp <;> with_reducible rfl
          try simp only [Act.put, List.setIfInBounds_toArray, List.set_cons_zero, List.set_cons_succ]
          refine wpAnyIn_ready (rs := [8]) (by kernel_rfl) (by simp) ?_
          refine AllReadyIn.cons rfl (fun K hK => ?_) AllReadyIn.nil
          go_simp
          first | refine hK _ _ ?_ | refine ⟨trivial, hK _ _ ?_⟩ | refine ⟨fun _ _ => trivial, hK _ _ ?_⟩
          clear hK K
          refine wpAnyIn_done (by kernel_rfl) ?_ _
          exact ⟨rfl, rfl, rfl, rfl⟩
        refine AllReadyIn.cons rfl (fun K hK => ?_) AllReadyIn.nil
        go_simp
        first | refine hK _ _ ?_ | refine ⟨trivial, hK _ _ ?_⟩ | refine ⟨fun _ _ => trivial, hK _ _ ?_⟩
        clear hK K
        refine wpAnyIn_take (i := 4) (oi := ⟨some 48, _, _, _, _, _⟩) (v := ?_) rfl rfl (by kernel_rfl) (by kernel_rfl) (by kernel_rfl) (fun _ _ _ h => h) ⟨Or.inl ⟨by rfl, ?_⟩, fun _ => rfl⟩ ?_
        rotate_left
        · intro w; go_simp <;> with_reducible rfl
        try simp only [Act.put, List.setIfInBounds_toArray, List.set_cons_zero, List.set_cons_succ]
        refine wpAnyIn_take (i := 5) (oi := ⟨some 49, _, _, _, _, _⟩) (v := ?_) rfl rfl (by kernel_rfl) (by kernel_rfl) (by kernel_rfl) (fun _ _ _ h => h) ⟨Or.inl ⟨by rfl, ?_⟩, fun _ => rfl⟩ ?_
        rotate_left
        · intro w; go_simp <;> with_reducible rfl
        try simp only [Act.put, List.setIfInBounds_toArray, List.set_cons_zero, List.set_cons_succ]
        refine wpAnyIn_ready (rs := [1]) (by kernel_rfl) (by simp) ?_
        refine AllReadyIn.cons rfl (fun K hK => ?_) AllReadyIn.nil
        go_simp
        first | refine hK _ _ ?_ | refine ⟨trivial, hK _ _ ?_⟩ | refine ⟨fun _ _ => trivial, hK _ _ ?_⟩
        clear hK K
        refine wpAnyIn_take (i := 6) (oi := ⟨some 50, _, _, _, _, _⟩) (v := ?_) rfl rfl (by kernel_rfl) (by kernel_rfl) (by kernel_rfl) (fun _ _ _ h => h) ⟨Or.inl ⟨by rfl, ?_⟩, fun _ => rfl⟩ ?_
        rotate_left
        · intro w; go_simp <;> with_reducible rfl
        try simp only [Act.put, List.setIfInBounds_toArray, List.set_cons_zero, List.set_cons_succ]
        refine wpAnyIn_ready (rs := [8]) (by kernel_rfl) (by simp) ?_
        refine AllReadyIn.cons rfl (fun K hK => ?_) AllReadyIn.nil
        go_simp
        first | refine hK _ _ ?_ | refine ⟨trivial, hK _ _ ?_⟩ | refine ⟨fun _ _ => trivial, hK _ _ ?_⟩
        clear hK K
        refine wpAnyIn_done (by kernel_rfl) ?_ _
        exact ⟨rfl, rfl, rfl, rfl⟩
      refine AllReadyIn.cons rfl (fun K hK => ?_) ?_
      · go_simp
        first | refine hK _ _ ?_ | refine ⟨trivial, hK _ _ ?_⟩ | refine ⟨fun _ _ => trivial, hK _ _ ?_⟩
        clear hK K
        refine wpAnyIn_ready (rs := [0, 3]) (by kernel_rfl) (by simp) ?_
        refine AllReadyIn.cons rfl (fun K hK => ?_) ?_
        · go_simp
          first | refine hK _ _ ?_ | refine ⟨trivial, hK _ _ ?_⟩ | refine ⟨fun _ _ => trivial, hK _ _ ?_⟩
          clear hK K
          refine wpAnyIn_ready (rs := [3, 7]) (by kernel_rfl) (by simp) ?_
          refine AllReadyIn.cons rfl (fun K hK => ?_) ?_
          · go_simp
            first | refine hK _ _ ?_ | refine ⟨trivial, hK _ _ ?_⟩ | refine ⟨fun _ _ => trivial, hK _ _ ?_⟩
            clear hK K
            refine wpAnyIn_take (i := 4) (oi := ⟨some 48, _, _, _, _, _⟩) (v := ?_) rfl rfl (by kernel_rfl) (by kernel_rfl) (by kernel_rfl) (fun _ _ _ h => h) ⟨Or.inl ⟨by rfl, ?_⟩, fun _ => rfl⟩ ?_
            rotate_left
            · intro w; go_simp <;> with_reducible rfl
            try simp only [Act.put, List.setIfInBounds_toArray, List.set_cons_zero, List.set_cons_succ]
            refine wpAnyIn_take (i := 5) (oi := ⟨some 49, _, _, _, _, _⟩) (v := ?_) rfl rfl (by kernel_rfl) (by kernel_rfl) (by kernel_rfl) (fun _ _ _ h => h) ⟨Or.inl ⟨by rfl, ?_⟩, fun _ => rfl⟩ ?_
            rotate_left
            · intro w; go_simp <;> with_reducible rfl
            try simp only [Act.put, List.setIfInBounds_toArray, List.set_cons_zero, List.set_cons_succ]
            refine wpAnyIn_take (i := 6) (oi := ⟨some 50, _, _, _, _, _⟩) (v := ?_) rfl rfl (by kernel_rfl) (by kernel_rfl) (by kernel_rfl) (fun _ _ _ h => h) ⟨Or.inl ⟨by rfl, ?_⟩, fun _ => rfl⟩ ?_
            rotate_left
            · intro w; go_simp <;> with_reducible rfl
            try simp only [Act.put, List.setIfInBounds_toArray, List.set_cons_zero, List.set_cons_succ]
            refine wpAnyIn_ready (rs := [7]) (by kernel_rfl) (by simp) ?_
            refine AllReadyIn.cons rfl (fun K hK => ?_) AllReadyIn.nil
            go_simp
            first | refine hK _ _ ?_ | refine ⟨trivial, hK _ _ ?_⟩ | refine ⟨fun _ _ => trivial, hK _ _ ?_⟩
            clear hK K
            refine wpAnyIn_ready (rs := [8]) (by kernel_rfl) (by simp) ?_
            refine AllReadyIn.cons rfl (fun K hK => ?_) AllReadyIn.nil
            go_simp
            first | refine hK _ _ ?_ | refine ⟨trivial, hK _ _ ?_⟩ | refine ⟨fun _ _ => trivial, hK _ _ ?_⟩
            clear hK K
            refine wpAnyIn_done (by kernel_rfl) ?_ _
            exact ⟨rfl, rfl, rfl, rfl⟩
          refine AllReadyIn.cons rfl (fun K hK => ?_) AllReadyIn.nil
          go_simp
          first | refine hK _ _ ?_ | refine ⟨trivial, hK _ _ ?_⟩ | refine ⟨fun _ _ => trivial, hK _ _ ?_⟩
          clear hK K
          refine wpAnyIn_ready (rs := [3]) (by kernel_rfl) (by simp) ?_
          refine AllReadyIn.cons rfl (fun K hK => ?_) AllReadyIn.nil
          go_simp
          first | refine hK _ _ ?_ | refine ⟨trivial, hK _ _ ?_⟩ | refine ⟨fun _ _ => trivial, hK _ _ ?_⟩
          clear hK K
          refine wpAnyIn_take (i := 4) (oi := ⟨some 48, _, _, _, _, _⟩) (v := ?_) rfl rfl (by kernel_rfl) (by kernel_rfl) (by kernel_rfl) (fun _ _ _ h => h) ⟨Or.inl ⟨by rfl, ?_⟩, fun _ => rfl⟩ ?_
          rotate_left
          · intro w; go_simp <;> with_reducible rfl
          try simp only [Act.put, List.setIfInBounds_toArray, List.set_cons_zero, List.set_cons_succ]
          refine wpAnyIn_take (i := 5) (oi := ⟨some 49, _, _, _, _, _⟩) (v := ?_) rfl rfl (by kernel_rfl) (by kernel_rfl) (by kernel_rfl) (fun _ _ _ h => h) ⟨Or.inl ⟨by rfl, ?_⟩, fun _ => rfl⟩ ?_
          rotate_left
          · intro w; go_simp <;> with_reducible rfl
          try simp only [Act.put, List.setIfInBounds_toArray, List.set_cons_zero, List.set_cons_succ]
          refine wpAnyIn_take (i := 6) (oi := ⟨some 50, _, _, _, _, _⟩) (v := ?_) rfl rfl (by kernel_rfl) (by kernel_rfl) (by kernel_rfl) (fun _ _ _ h => h) ⟨Or.inl ⟨by rfl, ?_⟩, fun _ => rfl⟩ ?_
          rotate_left
          · intro w; go_simp <;> with_reducible rfl
          try simp only [Act.put, List.setIfInBounds_toArray, List.set_cons_zero, List.set_cons_succ]
          refine wpAnyIn_ready (rs := [8]) (by kernel_rfl) (by simp) ?_
          refine AllReadyIn.cons rfl (fun K hK => ?_) AllReadyIn.nil
          go_simp
          first | refine hK _ _ ?_ | refine ⟨trivial, hK _ _ ?_⟩ | refine ⟨fun _ _ => trivial, hK _ _ ?_⟩
          clear hK K
          refine wpAnyIn_done (by kernel_rfl) ?_ _
          exact ⟨rfl, rfl, rfl, rfl⟩
        refine AllReadyIn.cons rfl (fun K hK => ?_) AllReadyIn.nil
        go_simp
        first | refine hK _ _ ?_ | refine ⟨trivial, hK _ _ ?_⟩ | refine ⟨fun _ _ => trivial, hK _ _ ?_⟩
        clear hK K
        refine wpAnyIn_take (i := 4) (oi := ⟨some 48, _, _, _, _, _⟩) (v := ?_) rfl rfl (by kernel_rfl) (by kernel_rfl) (by kernel_rfl) (fun _ _ _ h => h) ⟨Or.inl ⟨by rfl, ?_⟩, fun _ => rfl⟩ ?_
        rotate_left
        · intro w; go_simp <;> with_reducible rfl
        try simp only [Act.put, List.setIfInBounds_toArray, List.set_cons_zero, List.set_cons_succ]
        refine wpAnyIn_take (i := 5) (oi := ⟨some 49, _, _, _, _, _⟩) (v := ?_) rfl rfl (by kernel_rfl) (by kernel_rfl) (by kernel_rfl) (fun _ _ _ h => h) ⟨Or.inl ⟨by rfl, ?_⟩, fun _ => rfl⟩ ?_
        rotate_left
        · intro w; go_simp <;> with_reducible rfl
        try simp only [Act.put, List.setIfInBounds_toArray, List.set_cons_zero, List.set_cons_succ]
        refine wpAnyIn_take (i := 6) (oi := ⟨some 50, _, _, _, _, _⟩) (v := ?_) rfl rfl (by kernel_rfl) (by kernel_rfl) (by kernel_rfl) (fun _ _ _ h => h) ⟨Or.inl ⟨by rfl, ?_⟩, fun _ => rfl⟩ ?_
        rotate_left
        · intro w; go_simp <;> with_reducible rfl
        try simp only [Act.put, List.setIfInBounds_toArray, List.set_cons_zero, List.set_cons_succ]
        refine wpAnyIn_ready (rs := [0]) (by kernel_rfl) (by simp) ?_
        refine AllReadyIn.cons rfl (fun K hK => ?_) AllReadyIn.nil
        go_simp
        first | refine hK _ _ ?_ | refine ⟨trivial, hK _ _ ?_⟩ | refine ⟨fun _ _ => trivial, hK _ _ ?_⟩
        clear hK K
        refine wpAnyIn_ready (rs := [7]) (by kernel_rfl) (by simp) ?_
        refine AllReadyIn.cons rfl (fun K hK => ?_) AllReadyIn.nil
        go_simp
        first | refine hK _ _ ?_ | refine ⟨trivial, hK _ _ ?_⟩ | refine ⟨fun _ _ => trivial, hK _ _ ?_⟩
        clear hK K
        refine wpAnyIn_ready (rs := [8]) (by kernel_rfl) (by simp) ?_
        refine AllReadyIn.cons rfl (fun K hK => ?_) AllReadyIn.nil
        go_simp
        first | refine hK _ _ ?_ | refine ⟨trivial, hK _ _ ?_⟩ | refine ⟨fun _ _ => trivial, hK _ _ ?_⟩
        clear hK K
        refine wpAnyIn_done (by kernel_rfl) ?_ _
        exact ⟨rfl, rfl, rfl, rfl⟩
      refine AllReadyIn.cons rfl (fun K hK => ?_) AllReadyIn.nil
      go_simp
      first | refine hK _ _ ?_ | refine ⟨trivial, hK _ _ ?_⟩ | refine ⟨fun _ _ => trivial, hK _ _ ?_⟩
      clear hK K
      refine wpAnyIn_take (i := 4) (oi := ⟨some 48, _, _, _, _, _⟩) (v := ?_) rfl rfl (by kernel_rfl) (by kernel_rfl) (by kernel_rfl) (fun _ _ _ h => h) ⟨Or.inl ⟨by rfl, ?_⟩, fun _ => rfl⟩ ?_
      rotate_left
      · intro w; go_simp <;> with_reducible rfl
      try simp only [Act.put, List.setIfInBounds_toArray, List.set_cons_zero, List.set_cons_succ]
      refine wpAnyIn_take (i := 5) (oi := ⟨some 49, _, _, _, _, _⟩) (v := ?_) rfl rfl (by kernel_rfl) (by kernel_rfl) (by kernel_rfl) (fun _ _ _ h => h) ⟨Or.inl ⟨by rfl, ?_⟩, fun _ => rfl⟩ ?_
      rotate_left
      · intro w; go_simp <;> with_reducible rfl
      try simp only [Act.put, List.setIfInBounds_toArray, List.set_cons_zero, List.set_cons_succ]
      refine wpAnyIn_ready (rs := [0, 1]) (by kernel_rfl) (by simp) ?_
      refine AllReadyIn.cons rfl (fun K hK => ?_) ?_
      · go_simp
        first | refine hK _ _ ?_ | refine ⟨trivial, hK _ _ ?_⟩ | refine ⟨fun _ _ => trivial, hK _ _ ?_⟩
        clear hK K
        refine wpAnyIn_ready (rs := [1, 7]) (by kernel_rfl) (by simp) ?_
        refine AllReadyIn.cons rfl (fun K hK => ?_) ?_
        · go_simp
          first | refine hK _ _ ?_ | refine ⟨trivial, hK _ _ ?_⟩ | refine ⟨fun _ _ => trivial, hK _ _ ?_⟩
          clear hK K
          refine wpAnyIn_take (i := 6) (oi := ⟨some 50, _, _, _, _, _⟩) (v := ?_) rfl rfl (by kernel_rfl) (by kernel_rfl) (by kernel_rfl) (fun _ _ _ h => h) ⟨Or.inl ⟨by rfl, ?_⟩, fun _ => rfl⟩ ?_
          rotate_left
          · intro w; go_simp <;> with_reducible rfl
          try simp only [Act.put, List.setIfInBounds_toArray, List.set_cons_zero, List.set_cons_succ]
          refine wpAnyIn_ready (rs := [7]) (by kernel_rfl) (by simp) ?_
          refine AllReadyIn.cons rfl (fun K hK => ?_) AllReadyIn.nil
          go_simp
          first | refine hK _ _ ?_ | refine ⟨trivial, hK _ _ ?_⟩ | refine ⟨fun _ _ => trivial, hK _ _ ?_⟩
          clear hK K
          refine wpAnyIn_ready (rs := [8]) (by kernel_rfl) (by simp) ?_
          refine AllReadyIn.cons rfl (fun K hK => ?_) AllReadyIn.nil
          go_simp
          first | refine hK _ _ ?_ | refine ⟨trivial, hK _ _ ?_⟩ | refine ⟨fun _ _ => trivial, hK _ _ ?_⟩
          clear hK K
          refine wpAnyIn_done (by kernel_rfl) ?_ _
          exact ⟨rfl, rfl, rfl, rfl⟩
        refine AllReadyIn.cons rfl (fun K hK => ?_) AllReadyIn.nil
        go_simp
        first | refine hK _ _ ?_ | refine ⟨trivial, hK _ _ ?_⟩ | refine ⟨fun _ _ => trivial, hK _ _ ?_⟩
        clear hK K
        refine wpAnyIn_ready (rs := [1]) (by kernel_rfl) (by simp) ?_
        refine AllReadyIn.cons rfl (fun K hK => ?_) AllReadyIn.nil
        go_simp
        first | refine hK _ _ ?_ | refine ⟨trivial, hK _ _ ?_⟩ | refine ⟨fun _ _ => trivial, hK _ _ ?_⟩
        clear hK K
        refine wpAnyIn_take (i := 6) (oi := ⟨some 50, _, _, _, _, _⟩) (v := ?_) rfl rfl (by kernel_rfl) (by kernel_rfl) (by kernel_rfl) (fun _ _ _ h => h) ⟨Or.inl ⟨by rfl, ?_⟩, fun _ => rfl⟩ ?_
        rotate_left
        · intro w; go_simp <;> with_reducible rfl
        try simp only [Act.put, List.setIfInBounds_toArray, List.set_cons_zero, List.set_cons_succ]
        refine wpAnyIn_ready (rs := [8]) (by kernel_rfl) (by simp) ?_
        refine AllReadyIn.cons rfl (fun K hK => ?_) AllReadyIn.nil
        go_simp
        first | refine hK _ _ ?_ | refine ⟨trivial, hK _ _ ?_⟩ | refine ⟨fun _ _ => trivial, hK _ _ ?_⟩
        clear hK K
        refine wpAnyIn_done (by kernel_rfl) ?_ _
        exact ⟨rfl, rfl, rfl, rfl⟩
      refine AllReadyIn.cons rfl (fun K hK => ?_) AllReadyIn.nil
      go_simp
      first | refine hK _ _ ?_ | refine ⟨trivial, hK _ _ ?_⟩ | refine ⟨fun _ _ => trivial, hK _ _ ?_⟩
      clear hK K
      refine wpAnyIn_take (i := 6) (oi := ⟨some 50, _, _, _, _, _⟩) (v := ?_) rfl rfl (by kernel_rfl) (by kernel_rfl) (by kernel_rfl) (fun _ _ _ h => h) ⟨Or.inl ⟨by rfl, ?_⟩, fun _ => rfl⟩ ?_
      rotate_left
      · intro w; go_simp <;> with_reducible rfl
      try simp only [Act.put, List.setIfInBounds_toArray, List.set_cons_zero, List.set_cons_succ]
      refine wpAnyIn_ready (rs := [0]) (by kernel_rfl) (by simp) ?_
      refine AllReadyIn.cons rfl (fun K hK => ?_) AllReadyIn.nil
      go_simp
      first | refine hK _ _ ?_ | refine ⟨trivial, hK _ _ ?_⟩ | refine ⟨fun _ _ => trivial, hK _ _ ?_⟩
      clear hK K
      refine wpAnyIn_ready (rs := [7]) (by kernel_rfl) (by simp) ?_
      refine AllReadyIn.cons rfl (fun K hK => ?_) AllReadyIn.nil
      go_simp
      first | refine hK _ _ ?_ | refine ⟨trivial, hK _ _ ?_⟩ | refine ⟨fun _ _ => trivial, hK _ _ ?_⟩
      clear hK K
      refine wpAnyIn_ready (rs := [8]) (by kernel_rfl) (by simp) ?_
      refine AllReadyIn.cons rfl (fun K hK => ?_) AllReadyIn.nil
      go_simp
      first | refine hK _ _ ?_ | refine ⟨trivial, hK _ _ ?_⟩ | refine ⟨fun _ _ => trivial, hK _ _ ?_⟩
      clear hK K
      refine wpAnyIn_done (by kernel_rfl) ?_ _
      exact ⟨rfl, rfl, rfl, rfl⟩
  case body =>
    rintro l M pre ⟨wd, j⟩ W hl hM _ ⟨y, e0, e1, e2, e3, e4, e5, e6, e7⟩ hR hadm
    obtain ⟨rfl, hwd, hpl⟩ := adm_pair hadm
    obtain ⟨m, hm⟩ : ∃ m, pre.length = m := ⟨_, rfl⟩
    have hpz : pre = [] ↔ m = 0 := by rw [← hm]; exact List.length_eq_zero_iff.symm
    rw [hm] at e4 hpl
    have gn := cell_blk (i := 0) e4 rfl
    have fn := frozen_blk (i := 0) e4
    have gf1 : W.cell? ⟨n₀, 1, none⟩ = some (.string ⟨nm.toArray⟩) := cell_blk (i := 1) e0 rfl
    have gf2 : W.cell? ⟨n₀, 2, none⟩ = some (.string ⟨has.toArray⟩) := cell_blk (i := 2) e0 rfl
    obtain ⟨hB, hhB⟩ : ∃ b : ByteArray, (⟨has.toArray⟩ : ByteArray) = b := ⟨_, rfl⟩
    have hBz : hB.size = has.length := by rw [← hhB]; simp [ByteArray.size]
    rw [hhB] at gf2
    obtain ⟨nB, hnB⟩ : ∃ b : ByteArray, (⟨nm.toArray⟩ : ByteArray) = b := ⟨_, rfl⟩
    rw [hnB] at gf1
    have hmw : IntKind.i64.wrap ((m : Int) + 1) = (m : Int) + 1 := by rw [IntKind.wrap_i64]; omega
    have hpl2 : (pre.map lst).length = m := by rw [List.length_map, hm]
    rw [hm]
    have z0 : W.cell? ⟨n₀ + 1, 0, none⟩ = some (.int .i64 0) := cell_blk (i := 0) e1 rfl
    have z1 : W.cell? ⟨n₀ + 1, 1, none⟩ = some (.int .i64 0) := cell_blk (i := 1) e1 rfl
    have z2 : W.cell? ⟨n₀ + 1, 2, none⟩ = some (.int .i64 0) := cell_blk (i := 2) e1 rfl
    have z3 : W.cell? ⟨n₀ + 1, 3, none⟩ = some (.int .i64 0) := cell_blk (i := 3) e1 rfl
    have z4 : W.cell? ⟨n₀ + 1, 4, none⟩ = some (.string ⟨#[]⟩) := cell_blk (i := 4) e1 rfl
    have z5 : W.cell? ⟨n₀ + 1, 5, none⟩ = some (.int .i64 0) := cell_blk (i := 5) e1 rfl
    have z6 : W.cell? ⟨n₀ + 1, 6, none⟩ = some (.int .i64 0) := cell_blk (i := 6) e1 rfl
    have z7 : W.cell? ⟨n₀ + 1, 7, none⟩ = some (.int .i64 0) := cell_blk (i := 7) e1 rfl
    have z8 : W.cell? ⟨n₀ + 1, 8, none⟩ = some (.int .i64 0) := cell_blk (i := 8) e1 rfl
    have z9 : W.cell? ⟨n₀ + 1, 9, none⟩ = some (.int .i64 0) := cell_blk (i := 9) e1 rfl
    have z10 : W.cell? ⟨n₀ + 1 + 1, 0, none⟩ = some (.bool false) := cell_blk (i := 0) e2 rfl
    have fr := fun i => frozen_blk e1 (i := i)
    have fb := frozen_blk e2 (i := 0)
    have hmm : ((m : Int) + 1) = ((pre ++ [(wd, m)]).length : Int) := by rw [List.length_append, hm]; rfl
    replace hmm := hid hmm
    have hnt : wd.toList = wd.data.toList := Lib.toList_data wd
    have hnn : nB.toList = nm := by rw [Lib.toList_data, ← hnB]
    have hpm : (pre ++ [(wd, m)]).map lst = pre.map lst ++ [wd.data.toList] := by rw [List.map_append]; rfl
    rw [hm] at hadm
    replace hadm := hid hadm
    replace hBz := hid hBz
    replace hpz := hid hpz
    by_cases h0 : m = 0
    · have hm0 : ((m : Int) == 0) = true := by rw [h0]; rfl
      have hpe : pre = [] := hpz.out.2 h0
      have hpr : preS (k, nm, has) ((pre ++ [(wd, m)]).map lst) = if wd.data.toList = nm then some (zeroOp k) else none := by
        rw [hpm, hpe]; exact preS_one (k, nm, has) _
      have hyz : op8 y = zeroOp k := by
        rw [hpe] at e5; exact (Option.some.inj e5).symm
      by_cases hwn : wd.data.toList = nm
      · have hne : (wd.toList == nB.toList) = true := by rw [hnt, hnn, hwn]; simp
        rw [if_pos hwn] at hpr
        replace h0 := hid h0
        replace hpe := hid hpe
        replace hwn := hid hwn
        replace hpr := hid hpr
        replace hnt := hid hnt
        replace hnn := hid hnn
        gi_wp2_with (fail)
        refine ⟨KeepsM.setCell _ _ e4 (.inl (by omega)) _, (setCell_off (by omega)).trans hR, y, (setCell_off (by omega)).trans e0, (setCell_off (by omega)).trans e1, (setCell_off (by omega)).trans e2, (setCell_off (by omega)).trans e3, ?_, by rw [hpr.out, hyz], e6.setCell (p := ⟨n₀ + 1 + 1 + 1 + 1, 0, none⟩) (show n₀ ≤ n₀ + 1 + 1 + 1 + 1 by omega) _, by simp [World.setCell]; omega⟩
        rw [← hmm.out]
        exact setCell_blk e4
      · have hne : (wd.toList == nB.toList) = false := by rw [hnt, hnn]; simpa using hwn
        rw [if_neg hwn] at hpr
        replace h0 := hid h0
        replace hpe := hid hpe
        replace hwn := hid hwn
        replace hpr := hid hpr
        replace hnt := hid hnt
        replace hnn := hid hnn
        gi_wp2_with (fail)
        refine ⟨(KeepsM.setCell _ _ e4 (.inl (by omega)) _).trans ((put10_keeps _ _ (x := zOp) ((setCell_off (by omega)).trans e1) (by omega)).trans (KeepsM.setCell _ _ ((put10_off (x := zOp) (by omega)).trans ((setCell_off (by omega)).trans e2)) (.inl (by omega)) _)), rfl, hpr.out, hadm.out, (setCell_off (by omega)).trans (put10_here (x := zOp) ((setCell_off (by omega)).trans e1)), setCell_blk ((put10_off (x := zOp) (by omega)).trans ((setCell_off (by omega)).trans e2)), ?_⟩
        exact (put10_below (x := zOp) (e6.setCell (p := ⟨n₀ + 1 + 1 + 1 + 1, 0, none⟩) (show n₀ ≤ n₀ + 1 + 1 + 1 + 1 by omega) _) (by omega)).setCell (p := ⟨n₀ + 1 + 1, 0, none⟩) (show n₀ ≤ n₀ + 1 + 1 by omega) _
    · have hm0 : ((m : Int) == 0) = false := by rw [beq_eq_false_iff_ne]; omega
      obtain ⟨q, hq⟩ : ∃ q, m = q + 1 := ⟨m - 1, by omega⟩
      have hmq : IntKind.i64.wrap ((m : Int) - 1) = (q : Int) := by rw [IntKind.wrap_i64]; omega
      have hpr := preS_snoc (k, nm, has) (pre := pre.map lst) (by rw [ne_eq, List.map_eq_nil_iff, hpz.out]; exact h0) wd.data.toList e5
      rw [← hpm, hpl2, show m - 1 = q by omega] at hpr
      by_cases hlt : has.length < m
      · have hgt : (hB.size : Int) < (m : Int) := by rw [hBz.out]; omega
        rw [show (k, nm, has).2.2[q]? = none from List.getElem?_eq_none (show has.length ≤ q by omega)] at hpr
        replace hpr := hid hpr
        replace hq := hid hq
        replace h0 := hid h0
        gi_wp2_with (fail)
        refine ⟨trivial, ?_⟩
        gi_wp2_with (fail)
        refine ⟨(KeepsM.setCell _ _ e4 (.inl (by omega)) _).trans ((put10_keeps _ _ (x := zOp) ((setCell_off (by omega)).trans e1) (by omega)).trans (KeepsM.setCell _ _ ((put10_off (x := zOp) (by omega)).trans ((setCell_off (by omega)).trans e2)) (.inl (by omega)) _)), rfl, hpr.out, hadm.out, (setCell_off (by omega)).trans (put10_here (x := zOp) ((setCell_off (by omega)).trans e1)), setCell_blk ((put10_off (x := zOp) (by omega)).trans ((setCell_off (by omega)).trans e2)), ?_⟩
        exact (put10_below (x := zOp) (e6.setCell (p := ⟨n₀ + 1 + 1 + 1 + 1, 0, none⟩) (show n₀ ≤ n₀ + 1 + 1 + 1 + 1 by omega) _) (by omega)).setCell (p := ⟨n₀ + 1 + 1, 0, none⟩) (show n₀ ≤ n₀ + 1 + 1 by omega) _
      · have hgt : ¬ (hB.size : Int) < (m : Int) := by rw [hBz.out]; omega
        have hql : q < has.length := by omega
        have hqB : q < hB.size := by rw [hBz.out]; exact hql
        have hcq : hB[q] = has[q] := by
          subst hhB
          show has.toArray[q] = has[q]
          simp
        rw [show (k, nm, has).2.2[q]? = some hB[q] from by rw [hcq]; exact List.getElem?_eq_getElem hql] at hpr
        have hcl : hB[q] = 88 ∨ hB[q] ∈ lets := (forms_good _ hf).2.1 _ (by rw [hcq]; exact List.getElem_mem hql)
        obtain ⟨V1, hV1⟩ : ∃ V, W.setCell ⟨n₀ + 1 + 1 + 1 + 1, 0, none⟩ (.int .i64 ((m : Int) + 1)) = V := ⟨_, rfl⟩
        have k1 : KeepsM M W2.heap.size W V1 := by rw [← hV1]; exact KeepsM.setCell _ _ e4 (.inl (by omega)) _
        have b1 : Below n₀ w V1 := by rw [← hV1]; exact e6.setCell (p := ⟨n₀ + 1 + 1 + 1 + 1, 0, none⟩) (show n₀ ≤ n₀ + 1 + 1 + 1 + 1 by omega) _
        have v0 : V1.heap[n₀]? = some (.cells (encFm (k, nm, has)).toArray 50 (0, 0)) := by rw [← hV1]; exact (setCell_off (by omega)).trans e0
        have v1 : V1.heap[n₀ + 1]? = some (.cells (opC zOp) 25 (0, 0)) := by rw [← hV1]; exact (setCell_off (by omega)).trans e1
        have v2 : V1.heap[n₀ + 1 + 1]? = some (.cells #[.bool false] 4 (0, 0)) := by rw [← hV1]; exact (setCell_off (by omega)).trans e2
        have v3 : V1.heap[n₀ + 1 + 1 + 1]? = some (.cells (opC y) 25 (0, 0)) := by rw [← hV1]; exact (setCell_off (by omega)).trans e3
        have v4 := setCell_blk (i := 0) (x := .int .i64 ((m : Int) + 1)) e4
        rw [hV1] at v4
        have v5 : V1.heap[n₀ + 5]? = some (.cells #[.string s] 9 (0, 0)) := by rw [← hV1]; exact (setCell_off (by omega)).trans hR
        have vz : n₀ + 6 ≤ V1.heap.size := by rw [← hV1]; simpa [World.setCell] using e7
        have cR := hid (read_any y (n₀ + 1 + 1 + 1) hB[q] hcl wd V1 (by omega) (hT.below (by rw [hn₀]; exact b1)) v3)
        replace hpr := hid hpr
        replace hq := hid hq
        replace h0 := hid h0
        replace hcq := hid hcq
        replace hcl := hid hcl
        replace hV1 := hid hV1
        gi_wp2_with (fail)
        rw [hV1.out]
        refine ⟨trivial, rfl, (callsIn_wide.2 cR.out).mono ?_⟩
        rintro e V2 ⟨y2, U, jj, vv, rfl, hy2, d3, bU, hV2⟩
        have off : ∀ kk o, kk ≠ n₀ + 1 + 1 + 1 → V1.heap[kk]? = some o → V2.heap[kk]? = some o := fun kk o hk ho => by
          rw [hV2]; exact (setCell_off hk).trans ((bU.block kk (Array.getElem?_eq_some_iff.1 ho).1).trans ho)
        have d0 := off _ _ (by omega) v0
        have d1 := off _ _ (by omega) v1
        have d2 := off _ _ (by omega) v2
        have d4 := off _ _ (by omega) v4
        have d5 := off _ _ (by omega) v5
        have k2 : KeepsM M W2.heap.size W V2 := by
          rw [hV2]
          exact k1.trans ((KeepsM.of_below _ _ bU).trans (KeepsM.setCell _ _ ((bU.block _ (Array.getElem?_eq_some_iff.1 v3).1).trans v3) (.inl (by omega)) _))
        have b2 : Below n₀ w V2 := by
          rw [hV2]
          exact (b1.trans (bU.mono (by omega))).setCell (p := ⟨n₀ + 1 + 1 + 1, jj, none⟩) (show n₀ ≤ n₀ + 1 + 1 + 1 by omega) _
        have z2 : n₀ + 6 ≤ V2.heap.size := by
          have := bU.size
          rw [hV2]; simp [World.setCell]; omega
        have u0 : V2.cell? ⟨n₀ + 1, 0, none⟩ = some (.int .i64 0) := cell_blk (i := 0) d1 rfl
        have u1 : V2.cell? ⟨n₀ + 1, 1, none⟩ = some (.int .i64 0) := cell_blk (i := 1) d1 rfl
        have u2 : V2.cell? ⟨n₀ + 1, 2, none⟩ = some (.int .i64 0) := cell_blk (i := 2) d1 rfl
        have u3 : V2.cell? ⟨n₀ + 1, 3, none⟩ = some (.int .i64 0) := cell_blk (i := 3) d1 rfl
        have u4 : V2.cell? ⟨n₀ + 1, 4, none⟩ = some (.string ⟨#[]⟩) := cell_blk (i := 4) d1 rfl
        have u5 : V2.cell? ⟨n₀ + 1, 5, none⟩ = some (.int .i64 0) := cell_blk (i := 5) d1 rfl
        have u6 : V2.cell? ⟨n₀ + 1, 6, none⟩ = some (.int .i64 0) := cell_blk (i := 6) d1 rfl
        have u7 : V2.cell? ⟨n₀ + 1, 7, none⟩ = some (.int .i64 0) := cell_blk (i := 7) d1 rfl
        have u8 : V2.cell? ⟨n₀ + 1, 8, none⟩ = some (.int .i64 0) := cell_blk (i := 8) d1 rfl
        have u9 : V2.cell? ⟨n₀ + 1, 9, none⟩ = some (.int .i64 0) := cell_blk (i := 9) d1 rfl
        have u10 : V2.cell? ⟨n₀ + 1 + 1, 0, none⟩ = some (.bool false) := cell_blk (i := 0) d2 rfl
        have fr2 := fun i => frozen_blk d1 (i := i)
        have fb2 := frozen_blk d2 (i := 0)
        clear hV2 bU off cR v0 v1 v2 v3 v4 v5 k1 b1 vz
        cases hrb : readS (op8 y) hB[q] wd.data.toList with
        | none =>
          have hpn : preS (k, nm, has) ((pre ++ [(wd, m)]).map lst) = none := by rw [hpr.out]; exact hrb
          replace hpn := hid hpn
          replace hrb := hid hrb
          simp only [Option.isSome_none]
          gi_wp2_with (fail)
          refine ⟨k2.trans ((put10_keeps _ _ (x := zOp) d1 (by omega)).trans (KeepsM.setCell _ _ ((put10_off (x := zOp) (by omega)).trans d2) (.inl (by omega)) _)), rfl, hpn.out, hadm.out, (setCell_off (by omega)).trans (put10_here (x := zOp) d1), setCell_blk ((put10_off (x := zOp) (by omega)).trans d2), ?_⟩
          exact (put10_below (x := zOp) b2 (by omega)).setCell (p := ⟨n₀ + 1 + 1, 0, none⟩) (show n₀ ≤ n₀ + 1 + 1 by omega) _
        | some z =>
          have hpn : preS (k, nm, has) ((pre ++ [(wd, m)]).map lst) = some (op8 y2) := by rw [hpr.out, hy2 z hrb]; exact hrb
          replace hpn := hid hpn
          replace hrb := hid hrb
          simp only [Option.isSome_some]
          gi_wp2_with (fail)
          refine ⟨k2, d5, y2, d0, d1, d2, d3, ?_, hpn.out, b2, z2⟩
          rw [← hmm.out]
          exact d4
end Go.Proofs.YtkmnmigpnbehaaaDoor
