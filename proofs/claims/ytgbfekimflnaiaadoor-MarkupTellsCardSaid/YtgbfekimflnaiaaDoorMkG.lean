/- The world of markup's Parse: the parts so far, and their words. -/
import Derived.Test.YtgbfekimflnaiaaDoorMkF
import Derived.Test.YtgbfekimflnaiaaDoorApp
import Derived.Test.YtgbfekimflnaiaaDoorAppIn
namespace Go.Proofs.YtgbfekimflnaiaaDoor
open Go.RowKit Go.Shelf Go.Lib

/-- rows of texts that lie below lo stand, but the iterator's box -/
def Agr (bs lo : Nat) (A C : World) : Prop := ∀ k cs fr, k < lo → k ≠ bs → A.heap[k]? = some (.cells cs 9 fr) → C.heap[k]? = some (.cells cs 9 fr)
theorem Agr.refl (bs lo : Nat) (A : World) : Agr bs lo A A := fun _ _ _ _ _ h => h
theorem Agr.trans {bs lo : Nat} {A B C : World} (h : Agr bs lo A B) (k : Agr bs lo B C) : Agr bs lo A C := fun i cs fr h1 h2 h3 => k i cs fr h1 h2 (h i cs fr h1 h2 h3)
theorem Agr.mono {bs lo lo' : Nat} {A C : World} (h : Agr bs lo A C) (hl : lo' ≤ lo) : Agr bs lo' A C := fun i cs fr h1 h2 h3 => h i cs fr (by omega) h2 h3
theorem Agr.of_keptB {N : Nat → Bool} {B bs lo : Nat} {A C : World} (h : KeptB N B A C) (hN : ∀ k, k ≠ bs → N k = false) : Agr bs lo A C := fun i _ _ _ h2 h3 => h.same i _ h3 (hN i h2) (.inl rfl)
theorem Agr.of_below {bs lo : Nat} {A C : World} (h : Below A.heap.size A C) : Agr bs lo A C := fun i _ _ _ _ h3 => (h.block i (Array.getElem?_eq_some_iff.1 h3).1).trans h3
theorem Agr.setCell {bs lo : Nat} {W : World} {b i : Nat} {cs : Array Value} {t : TypeId} {fr : Nat × Nat} (h : W.heap[b]? = some (.cells cs t fr)) (ht : t ≠ 9) (x : Value) : Agr bs lo W (W.setCell ⟨b, i, none⟩ x) := fun k cs2 fr2 _ _ h3 => by
  have e : k ≠ b := by rintro rfl; rw [h] at h3; cases h3; exact ht rfl
  exact (setCell_off e).trans h3
/-- a row of another type has grown -/
theorem Agr.grown {bs lo : Nat} {W W' : World} {base : Nat} {e : TypeId} {size : Nat} {v : Value} {n : Nat} {xs : List Value} (h : W.ownsRow base e size v n xs) (he : e ≠ 9) (hg : W.grownBy W' v.ownBlock) : Agr bs lo W W' := fun k cs fr _ _ hk => by
  by_cases e1 : some k = v.ownBlock
  · rcases h.2 with ⟨rfl, _⟩ | ⟨g, cap, cur, rfl, hgM, hh, _⟩
    · simp [Value.ownBlock] at e1
    · simp [Value.ownBlock] at e1
      subst e1
      rw [hh] at hk; cases hk; exact absurd rfl he
  · exact (hg.block k (Array.getElem?_eq_some_iff.1 hk).1 e1).trans hk
/-- a row of texts at lo and above has grown -/
theorem Agr.grownT {bs lo : Nat} {W W' : World} {base : Nat} {e : TypeId} {size : Nat} {v : Value} {n : Nat} {xs : List Value} (h : W.ownsRow base e size v n xs) (hl : lo ≤ base) (hg : W.grownBy W' v.ownBlock) : Agr bs lo W W' := fun k cs fr h1 _ hk => by
  refine (hg.block k (Array.getElem?_eq_some_iff.1 hk).1 fun e1 => ?_).trans hk
  have := own_base h e1.symm
  omega
/-- a part's words, whatever happens beside rows of texts below lo -/
def WSl (bs lo : Nat) (V : World) (p : Pt) : Prop := ∀ C, Agr bs lo V C → Sl C 1 encT p.2.1 p.2.2
theorem WSl.agr {bs lo : Nat} {V V' : World} {p : Pt} (h : WSl bs lo V p) (k : Agr bs lo V V') : WSl bs lo V' p := fun C hC => h C (k.trans hC)
theorem WSl.up {bs lo lo' : Nat} {V : World} {p : Pt} (h : WSl bs lo V p) (hl : lo ≤ lo') : WSl bs lo' V p := fun C hC => h C (hC.mono hl)
theorem WSl.of_owns {bs lo base : Nat} {V : World} {p : Pt} (h : V.ownsRow base 9 1 p.2.1 p.2.2.length (p.2.2.flatMap encT)) (hb : bs < base) (hl : V.heap.size ≤ lo) : WSl bs lo V p := by
  intro C hC
  have h0 := h
  obtain ⟨h1, h2⟩ := h
  refine sl_of_owns (base := base) (e := 9) (k := 1) (fun _ _ => rfl) ⟨h1, ?_⟩
  rcases h2 with h2 | ⟨g, cap, cur, hv, hg, hh, r⟩
  · exact .inl h2
  · exact .inr ⟨g, cap, cur, hv, hg, hC g _ _ (by have := (Array.getElem?_eq_some_iff.1 hh).1; omega) (by omega) hh, r⟩
/-- a row of texts of our own stands through what leaves rows of texts alone -/
theorem owns_agr {bs base : Nat} {V V' : World} {v : Value} {n : Nat} {xs : List Value} (h : V.ownsRow base 9 1 v n xs) (hb : bs < base) (k : Agr bs V.heap.size V V') : V'.ownsRow base 9 1 v n xs := by
  obtain ⟨h1, h2⟩ := h
  refine ⟨h1, ?_⟩
  rcases h2 with h2 | ⟨g, cap, cur, hv, hg, hh, r⟩
  · exact .inl h2
  · exact .inr ⟨g, cap, cur, hv, hg, k g _ _ (Array.getElem?_eq_some_iff.1 hh).1 (by omega) hh, r⟩

/-- the parts as bytes -/
def pt8 (x : Pt) : P8 := p8 x.1 x.2.2
/-- the parts so far: their list in the box bo, whether the last one goes on in the box bb -/
structure PInv (bs bo bb n₀ : Nat) (V : World) (out : List Pt) (opn : Bool) : Prop where
  row : ∃ v, Boxed V bo 22 v ∧ V.ownsRow n₀ 41 2 v out.length (out.flatMap encPt)
  opn : Boxed V bb 4 (.bool opn)
  words : ∃ lo, (bs < lo ∧ n₀ ≤ lo) ∧ lo ≤ V.heap.size ∧ (∀ p ∈ out.dropLast, WSl bs lo V p) ∧ ∀ p, out.getLast? = some p → V.ownsRow lo 9 1 p.2.1 p.2.2.length (p.2.2.flatMap encT)

theorem PInv.keptB {bs bo bb n₀ : Nat} {N : Nat → Bool} {B : Nat} {V V' : World} {out : List Pt} {opn : Bool} (h : PInv bs bo bb n₀ V out opn) (k : KeptB N B V V') (hN : ∀ k, k ≠ bs → N k = false) (h1 : bo ≠ bs) (h2 : bb ≠ bs) (h3 : bs < n₀) : PInv bs bo bb n₀ V' out opn := by
  obtain ⟨⟨v, r1, r2⟩, o, lo, w1, w2, w3, w4⟩ := h
  refine ⟨⟨v, k.same _ _ r1 (hN _ h1) (.inl rfl), k.owns (fun j hj => hN j (by omega)) r2⟩, k.same _ _ o (hN _ h2) (.inl rfl), lo, w1, Nat.le_trans w2 k.size, fun p hp => (w3 p hp).agr (Agr.of_keptB k hN), fun p hp => owns_agr (w4 p hp) w1.1 (Agr.of_keptB k hN)⟩
theorem PInv.all {bs bo bb n₀ : Nat} {V : World} {out : List Pt} {opn : Bool} (h : PInv bs bo bb n₀ V out opn) : ∀ p ∈ out, WSl bs V.heap.size V p := by
  obtain ⟨-, -, lo, w1, w2, w3, w4⟩ := h
  intro p hp
  rcases List.eq_nil_or_concat out with rfl | ⟨pre, q, rfl⟩
  · cases hp
  · rw [List.concat_eq_append] at *
    rw [List.dropLast_concat] at w3
    rcases List.mem_append.1 hp with h | h
    · exact (w3 p h).up w2
    · obtain rfl := List.mem_singleton.1 h
      exact WSl.of_owns (w4 p (by simp)) w1.1 (Nat.le_refl _)
theorem grown_blk {W W' : World} {base : Nat} {e : TypeId} {size : Nat} {v : Value} {n : Nat} {xs : List Value} (h : W.ownsRow base e size v n xs) (hg : W.grownBy W' v.ownBlock) {b : Nat} (hb : b < base) {o : Obj} (ho : W.heap[b]? = some o) : W'.heap[b]? = some o := by
  refine (hg.block b (Array.getElem?_eq_some_iff.1 ho).1 fun e1 => ?_).trans ho
  have := own_base h e1.symm
  omega
/-- one part more -/
theorem PInv.app {bs bo bb n₁ : Nat} {V V1 w2 : World} {out : List Pt} {opn : Bool} (h : PInv bs bo bb n₁ V out opn) (b1 : Below V.heap.size V V1) {lo : Nat} {k : Int} {v v0 v' : Value} {ws : List ByteArray} {tmp : Obj}
    (hw : V1.ownsRow lo 9 1 v ws.length (ws.flatMap encT)) (hlo : V.heap.size ≤ lo) (hlo2 : lo ≤ V1.heap.size)
    (hv : Boxed V1 bo 22 v0) (hrow : V1.ownsRow n₁ 41 2 v0 out.length (out.flatMap encPt)) (hown : w2.ownsRow n₁ 41 2 v' (out.length + 1) (out.flatMap encPt ++ [.int .i64 k, v])) (hg : (V1.alloc tmp).grownBy w2 v0.ownBlock)
    (d1 : bo < n₁) (d2 : bb < n₁) (d3 : bo ≠ bb) (d4 : bs < lo ∧ n₁ ≤ lo) (d5 : bb < V.heap.size) (b : Bool) :
    PInv bs bo bb n₁ ((w2.setCell ⟨bo, 0, none⟩ v').setCell ⟨bb, 0, none⟩ (.bool b)) (out ++ [(k, v, ws)]) b ∧ (∀ l, Agr bs l V1 ((w2.setCell ⟨bo, 0, none⟩ v').setCell ⟨bb, 0, none⟩ (.bool b))) ∧ V1.heap.size ≤ ((w2.setCell ⟨bo, 0, none⟩ v').setCell ⟨bb, 0, none⟩ (.bool b)).heap.size := by
  have hrow2 := hrow.alloc tmp
  have hbo1 : (V1.alloc tmp).heap[bo]? = some (.cells #[v0] 22 (0, 0)) := hv.alloc tmp
  have hbb1 : (V1.alloc tmp).heap[bb]? = some (.cells #[.bool opn] 4 (0, 0)) := (Below.heap_alloc V1 tmp bb (by have := b1.size; omega)).trans ((b1.block bb d5).trans h.opn)
  have hbo2 := grown_blk hrow2 hg d1 hbo1
  have hbb2 := grown_blk hrow2 hg d2 hbb1
  have hbo3 : (w2.setCell ⟨bo, 0, none⟩ v').heap[bo]? = some (.cells #[v'] 22 (0, 0)) := setCell_blk hbo2
  have hbb3 : (w2.setCell ⟨bo, 0, none⟩ v').heap[bb]? = some (.cells #[.bool opn] 4 (0, 0)) := (setCell_off d3.symm).trans hbb2
  have hag : ∀ l, Agr bs l V1 ((w2.setCell ⟨bo, 0, none⟩ v').setCell ⟨bb, 0, none⟩ (.bool b)) := fun l =>
    (((Agr.of_below ((Below.refl V1.heap.size V1).alloc (Nat.le_refl _) tmp)).trans (Agr.grown hrow2 (by decide) hg)).trans (Agr.setCell hbo2 (by decide) _)).trans (Agr.setCell hbb3 (by decide) _)
  have hsz : V1.heap.size ≤ ((w2.setCell ⟨bo, 0, none⟩ v').setCell ⟨bb, 0, none⟩ (.bool b)).heap.size := by
    have := hg.size
    simp [World.setCell] at this ⊢
    omega
  refine ⟨⟨⟨v', (setCell_off d3).trans hbo3, ?_⟩, setCell_blk hbb3, lo, d4, by omega, fun p hp => ?_, fun p hp => ?_⟩, hag, hsz⟩
  · rw [List.length_append, List.flatMap_append]
    exact owns_offD (owns_offD hown d1 _) d2 _
  · rw [List.dropLast_concat] at hp
    exact ((h.all p hp).up hlo).agr ((Agr.of_below b1).trans (hag _))
  · rw [List.getLast?_concat] at hp
    cases hp
    exact owns_agr hw d4.1 (hag _)
/-- words more of the last part -/
theorem PInv.ext {bs bo bb n₁ : Nat} {V V1 w2 : World} {pre : List Pt} {k : Int} {v v' : Value} {ws w : List ByteArray} {opn : Bool} {g cap : Nat} (h : PInv bs bo bb n₁ V (pre ++ [(k, v, ws)]) opn) (b1 : Below V.heap.size V V1)
    (hv : Boxed V1 bo 22 (.slice (some ⟨g, 0, none⟩) (pre.length + 1) cap)) (hrow : V1.ownsRow n₁ 41 2 (.slice (some ⟨g, 0, none⟩) (pre.length + 1) cap) (pre.length + 1) ((pre ++ [(k, v, ws)]).flatMap encPt))
    {lo : Nat} (hlo : (bs < lo ∧ n₁ ≤ lo) ∧ lo ≤ V.heap.size ∧ (∀ p ∈ pre, WSl bs lo V p)) (hw : V1.ownsRow lo 9 1 v ws.length (ws.flatMap encT))
    (hown : w2.ownsRow lo 9 1 v' (ws.length + w.length) (ws.flatMap encT ++ w.flatMap encT)) (hg : V1.grownBy w2 v.ownBlock)
    (d1 : bo < n₁) (d2 : bb < n₁) (d5 : bb < V.heap.size) :
    PInv bs bo bb n₁ (w2.setCell ⟨g, pre.length * 2 + 1, none⟩ v') (pre ++ [(k, v', ws ++ w)]) opn := by
  obtain ⟨w1, w3, w4⟩ := hlo
  have hbo2 := grown_blk hw hg (by omega) hv
  have hbb2 := grown_blk hw hg (by omega) ((b1.block bb d5).trans h.opn)
  obtain ⟨r1, r2⟩ := hrow
  rcases r2 with ⟨r2, -⟩ | ⟨g', cap', cur, e1, e2, e3, e4, e5, e6, e7⟩
  · cases r2
  · cases e1
    have hgv : some g ≠ v.ownBlock := fun e => by
      rcases hw.2 with ⟨rfl, _⟩ | ⟨gg, cc, cu, rfl, -, hh, _⟩
      · simp [Value.ownBlock] at e
      · simp [Value.ownBlock] at e
        subst e
        rw [hh] at e3
        simp only [Option.some.injEq, Obj.cells.injEq] at e3
        exact absurd e3.2.1 (by decide)
    have e3' : w2.heap[g]? = some (.cells cur 41 (0, 0)) := (hg.block g (Array.getElem?_eq_some_iff.1 e3).1 hgv).trans e3
    have hag : ∀ l, l ≤ lo → Agr bs l V1 (w2.setCell ⟨g, pre.length * 2 + 1, none⟩ v') := fun l hl => (Agr.grownT hw hl hg).trans (Agr.setCell e3' (by decide) _)
    have hxs : ∀ p : List Pt, (p.flatMap encPt).length = p.length * 2 := fun p => by
      induction p with
      | nil => rfl
      | cons a p ih => rw [List.flatMap_cons, List.length_append, ih]; simp [encPt]; omega
    refine ⟨⟨.slice (some ⟨g, 0, none⟩) (pre.length + 1) cap, (setCell_off (by omega)).trans hbo2, ?_⟩, (setCell_off (by omega)).trans hbb2, lo, w1, ?_, fun p hp => ?_, fun p hp => ?_⟩
    · refine ⟨by rw [hxs], .inr ⟨g, cap, cur.setIfInBounds (pre.length * 2 + 1) v', by simp, e2, setCell_blk e3', by simpa using e4, e5, by simpa using e6, ?_⟩⟩
      have hc : cur.size = cap * 2 := e6
      rw [Array.toList_setIfInBounds, List.take_set]
      rw [show (pre ++ [(k, v', ws ++ w)]).length * 2 = (pre.length + 1) * 2 by simp]
      rw [e7, List.flatMap_append, List.flatMap_append]
      rw [List.set_append_right _ _ (by have := hxs pre; omega), hxs, show pre.length * 2 + 1 - pre.length * 2 = 1 by omega]
      rfl
    · have := b1.size
      have := hg.size
      simp [World.setCell]; omega
    · rw [List.dropLast_concat] at hp
      exact (w4 p hp).agr ((Agr.of_below b1).trans (hag lo (Nat.le_refl _)))
    · rw [List.getLast?_concat] at hp
      cases hp
      obtain ⟨o1, o2⟩ := hown
      have hgg : ∀ g2, v'.ownBlock = some g2 → g2 ≠ g := by
        rintro g2 hg2 rfl
        rcases o2 with ⟨rfl, _⟩ | ⟨gg, cc, cu, rfl, -, hh, _⟩
        · simp [Value.ownBlock] at hg2
        · simp [Value.ownBlock] at hg2
          subst hg2
          rw [hh] at e3'
          simp only [Option.some.injEq, Obj.cells.injEq] at e3'
          exact absurd e3'.2.1 (by decide)
      rw [List.flatMap_append, List.length_append]
      refine ⟨o1, o2.imp id ?_⟩
      rintro ⟨gg, cc, cu, hv2, hg2, hh, r⟩
      exact ⟨gg, cc, cu, hv2, hg2, (setCell_off (hgg gg (by rw [hv2]; rfl))).trans hh, r⟩
/-- how many words parts have -/
def wcount (out : List Pt) : Nat := (out.map fun p => p.2.2.length).sum
theorem lines_sum (c : UInt8) (l : L8) : ((cutB c l).map fun x => x.length + 1).sum = l.length + 1 := by
  induction l with
  | nil => rfl
  | cons x r ih =>
    obtain ⟨h, t, e⟩ := cutB_cons c r
    rw [cutB, e]; rw [e] at ih
    split <;> simp at ih ⊢ <;> omega
theorem have_count (out : List Pt) : wcount out ≤ (haveP (out.map pt8)).length := by
  induction out with
  | nil => exact Nat.le_refl _
  | cons p r ih =>
    have e1 : wcount (p :: r) = p.2.2.length + wcount r := by simp [wcount]
    have e2 : haveP ((p :: r).map pt8) = (markOf p.1 ++ p.2.2.map fun w => w.data.toList) ++ haveP (r.map pt8) := rfl
    rw [e1, e2]; simp; omega
theorem words_flat (ls : List L8) : (ls.flatMap wordsL).length ≤ (ls.map fun x => x.length + 1).sum := by
  induction ls with
  | nil => exact Nat.le_refl _
  | cons x r ih =>
    have := wordsL_len x
    rw [List.flatMap_cons, List.length_append, List.map_cons, List.sum_cons]
    omega
theorem wcount_mem {out : List Pt} {p : Pt} (h : p ∈ out) : p.2.2.length ≤ wcount out := by
  induction out with
  | nil => cases h
  | cons q r ih =>
    have e1 : wcount (q :: r) = q.2.2.length + wcount r := by simp [wcount]
    rcases List.mem_cons.1 h with rfl | h
    · omega
    · have := ih h; omega
end Go.Proofs.YtgbfekimflnaiaaDoor
