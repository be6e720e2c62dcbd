/- The walk of the reference's Parse (printed by gen_mky.py). -/
import Derived.Test.YtgbfekimflnaiaaDoorMkT
import Derived.Test.YtgbfekimflnaiaaDoorMkV
import Derived.Deep.QuietTactic
import Derived.Deep.DeepCutAuto
namespace Go.Proofs.YtgbfekimflnaiaaDoor
open Go.RowKit Go.Shelf Go.Lib

/-- rows of texts stand as they stood -/
def AgS (A C : World) : Prop := ∀ (k : Nat) (cs : Array Value) (fr : Nat × Nat), A.heap[k]? = some (.cells cs 9 fr) → C.heap[k]? = some (.cells cs 9 fr)
theorem AgS.refl (A : World) : AgS A A := fun _ _ _ h => h
theorem AgS.trans {A B C : World} (h : AgS A B) (k : AgS B C) : AgS A C := fun i cs fr h1 => k i cs fr (h i cs fr h1)
theorem AgS.of_below {A C : World} (h : Below A.heap.size A C) : AgS A C := fun i _ _ h3 => (h.block i (Array.getElem?_eq_some_iff.1 h3).1).trans h3
theorem AgS.setCell {W : World} {b i : Nat} {cs : Array Value} {t : TypeId} {fr : Nat × Nat} (h : W.heap[b]? = some (.cells cs t fr)) (ht : t ≠ 9) (x : Value) : AgS W (W.setCell ⟨b, i, none⟩ x) := fun k cs2 fr2 h3 => by
  by_cases e : k = b
  · subst e
    rw [h] at h3; cases h3; exact absurd rfl ht
  · exact (setCell_off e).trans h3
theorem AgS.grown {W W' : World} {base : Nat} {e : TypeId} {size : Nat} {v : Value} {n : Nat} {xs : List Value} (h : W.ownsRow base e size v n xs) (he : e ≠ 9) (hg : W.grownBy W' v.ownBlock) : AgS W W' := fun k cs fr hk => by
  by_cases e1 : some k = v.ownBlock
  · rcases h.2 with ⟨rfl, _⟩ | ⟨g, cap, cur, rfl, hgM, hh, _⟩
    · simp [Value.ownBlock] at e1
    · simp [Value.ownBlock] at e1
      subst e1
      rw [hh] at hk; cases hk; exact absurd rfl he
  · exact (hg.block k (Array.getElem?_eq_some_iff.1 hk).1 e1).trans hk
/-- a slice of texts that reads so whatever happens beside rows of texts -/
def SlS (V : World) (v : Value) (ws : List ByteArray) : Prop := ∀ C, AgS V C → Sl C 1 encT v ws
theorem SlS.agr {V V' : World} {v : Value} {ws : List ByteArray} (h : SlS V v ws) (k : AgS V V') : SlS V' v ws := fun C hC => h C (k.trans hC)
theorem SlS.self {V : World} {v : Value} {ws : List ByteArray} (h : SlS V v ws) : Sl V 1 encT v ws := h V (AgS.refl V)
theorem SlS.none (V : World) : SlS V (.slice none 0 0) [] := fun _ _ => .inl ⟨rfl, rfl⟩
theorem SlS.of_owns {base : Nat} {V : World} {v : Value} {ws : List ByteArray} (h : V.ownsRow base 9 1 v ws.length (ws.flatMap encT)) : SlS V v ws := by
  intro C hC
  obtain ⟨h1, h2⟩ := h
  refine sl_of_owns (base := base) (e := 9) (k := 1) (fun _ _ => rfl) ⟨h1, ?_⟩
  rcases h2 with h2 | ⟨g, cap, cur, hv, hg, hh, r⟩
  · exact .inl h2
  · exact .inr ⟨g, cap, cur, hv, hg, hC g _ _ hh, r⟩
/-- its tail -/
theorem SlS.tail {V : World} {b o n c : Nat} {x : ByteArray} {r : List ByteArray} (h : SlS V (.slice (some ⟨b, o, Option.none⟩) n c) (x :: r)) : SlS V (.slice (some ⟨b, o + 1, Option.none⟩) r.length (c - 1)) r := by
  intro C hC
  obtain ⟨b', o', c', he, h1, h2, h3⟩ := (h C hC).open (by simp)
  simp only [Value.slice.injEq, Option.some.injEq, Addr.mk.injEq] at he
  obtain ⟨⟨rfl, rfl, -⟩, -, rfl⟩ := he
  refine Sl.mk (by simp only [List.length_cons] at h1; omega) (by omega) fun i y hi => ?_
  have := h3 (i + 1) y (by simpa using hi)
  rwa [show o + (i + 1) * 1 = o + 1 + i * 1 by omega] at this
/-- a part's words set anew in its row -/
theorem rowP_set {W : World} {base g cap : Nat} {pre : List Pt} {k : Int} {v v' : Value} {ws ws' : List ByteArray} (h : W.ownsRow base 41 2 (.slice (some ⟨g, 0, none⟩) (pre.length + 1) cap) (pre.length + 1) ((pre ++ [(k, v, ws)]).flatMap encPt)) :
    (W.setCell ⟨g, pre.length * 2 + 1, none⟩ v').ownsRow base 41 2 (.slice (some ⟨g, 0, none⟩) (pre.length + 1) cap) (pre.length + 1) ((pre ++ [(k, v', ws')]).flatMap encPt) ∧
      (∃ cur, W.heap[g]? = some (.cells cur 41 (0, 0)) ∧ cur[pre.length * 2 + 1]? = some v) := by
  obtain ⟨r1, r2⟩ := h
  have hxs : ∀ p : List Pt, (p.flatMap encPt).length = p.length * 2 := fun p => by
    induction p with
    | nil => rfl
    | cons a p ih => rw [List.flatMap_cons, List.length_append, ih]; simp [encPt]; omega
  rcases r2 with ⟨r2, -⟩ | ⟨g', cap', cur, e1, e2, e3, e4, e5, e6, e7⟩
  · cases r2
  · cases e1
    refine ⟨⟨by rw [hxs]; simp, .inr ⟨g, cap, cur.setIfInBounds (pre.length * 2 + 1) v', by simp, e2, setCell_blk e3, by simpa using e4, e5, by simpa using e6, ?_⟩⟩, cur, e3, ?_⟩
    · have hc : cur.size = cap * 2 := e6
      rw [Array.toList_setIfInBounds, List.take_set]
      rw [e7, List.flatMap_append, List.flatMap_append]
      rw [List.set_append_right _ _ (by have := hxs pre; omega), hxs, show pre.length * 2 + 1 - pre.length * 2 = 1 by omega]
      rfl
    · have h8 : (cur.toList.take ((pre.length + 1) * 2))[pre.length * 2 + 1]? = some v := by
        rw [e7, List.flatMap_append, List.getElem?_append_right (by rw [hxs]; omega), hxs, show pre.length * 2 + 1 - pre.length * 2 = 1 by omega]
        rfl
      rw [List.getElem?_take_of_lt (by omega)] at h8
      simpa using h8
theorem fold_more {l : List L8} {k : Nat} {st : PSt} {o : PSt} (h : k < l.length) (hf : foldP (l.take k) st = some o) : foldP (l.take (k + 1)) st = stepP l[k] o := by
  rw [List.take_succ_eq_append_getElem h, foldP_app, hf]
  show (stepP l[k] o).bind (foldP []) = _
  cases stepP l[k] o <;> rfl
theorem fold_none {l : List L8} {k : Nat} {st : PSt} (hf : foldP (l.take k) st = none) : foldP l st = none := by
  rw [← List.take_append_drop k l, foldP_app, hf]; rfl
theorem word_count {l : List L8} {s : L8} {k : Nat} {out : List Pt} {op : Bool} (hl : l = cutB 10 s) (hf : foldP (l.take k) ([], false) = some (out.map pt8, op)) : wcount out ≤ s.length + 1 ∧ out.length ≤ k := by
  have e1 := foldP_have _ _ _ (by simp) hf
  have e2 := have_count out
  have e3 := words_flat (l.take k)
  have e4 := lines_sum 10 s
  have e5 : ((l.take k).map fun x => x.length + 1).sum ≤ (l.map fun x => x.length + 1).sum := by
    conv => rhs; rw [← List.take_append_drop k l]
    rw [List.map_append, List.sum_append]; omega
  rw [← hl] at e4
  simp only [haveP, List.flatMap_nil, List.nil_append] at e1
  have e6 : (haveP (out.map pt8)).length = ((l.take k).flatMap wordsL).length := by
    show (List.flatMap _ _).length = _
    rw [e1]
  have e7 := foldP_len _ _ _ hf
  simp at e7
  refine ⟨by omega, by omega⟩

set_option maxRecDepth 100000 in
set_option maxHeartbeats 8000000 in
theorem rParse_any (s : ByteArray) (w : World) (hs : s.size ≤ 1000000) :
    Calls Tryd.prog 11 #[.string s] w fun e w' => ParseE s w.heap.size w e w' := by
  have hpr : parseR s.data.toList = if 240 < s.data.toList.length then ((16 : Int), ([] : List P8)) else if plainB 10 s.data.toList then (match parseL s.data.toList with | none => (15, []) | some l => (0, l)) else (15, []) := rfl
  rw [size8] at hpr
  obtain ⟨i0, hi, hz0, hz1, hz2⟩ := info_parts Tryd.infoS
  obtain ⟨j0, hj, hy0, hy1, hy2⟩ := info_parts Tryd.infoPt
  have n1e : ∀ l : List ByteArray, ∀ x ∈ l, (encT x).length = 1 ∧ ∀ u ∈ encT x, u.oneCell' = true := fun l x _ => ⟨rfl, fun u hu => by obtain rfl := List.mem_singleton.1 hu; rfl⟩
  go_enter Tryd.func11, Tryd.ntmps11
  by_cases h240 : (240 : Int) < s.size
  · rw [if_pos (by omega)] at hpr
    go_wp2_with (fail)
    go_ret2
    exact ⟨_, [], 16, rfl, hpr, World.ownsRow_nil _ _ _ _, by simp, Below.refl _ _⟩
  · rw [if_neg (by omega)] at hpr
    have cP := hid (rplain_any s true 10 (.inl ⟨rfl, rfl⟩) w hs)
    go_wp2_with (fail)
    refine cP.out.mono ?_
    rintro e w1 ⟨rfl, b1⟩
    by_cases hpl : plainB 10 s.data.toList
    · rw [if_pos hpl] at hpr
      simp only [hpl, decide_true] at cP ⊢
      have cC := hid (rcut_any s 10 w1 hs)
      have hLm : (pcsB 10 s).map (fun x => x.data.toList) = cutB 10 s.data.toList := pcsB_map 10 s
      have hLz : ∀ x ∈ pcsB 10 s, x.size ≤ s.size := fun x hx => by
        have h9 : x.data.toList ∈ cutB 10 s.data.toList := by rw [← hLm]; exact List.mem_map.2 ⟨x, hx, rfl⟩
        rw [← size8, ← size8]; exact lines_mem h9
      have hLl : (pcsB 10 s).length ≤ s.size + 1 := by
        have := cutB_len 10 s.data.toList
        rw [← hLm, List.length_map, size8] at this; exact this
      generalize pcsB 10 s = LS at *
      replace hLm := hid hLm
      replace hLz := hid hLz
      clear cP
      go_wp2_with (fail)
      refine cC.out.mono ?_
      rintro e w2 ⟨v2, rfl, o2, b2⟩
      obtain ⟨p2, q2, rfl, -, -⟩ := owns_shape o2
      have z2 : Sl w2 1 encT (.slice p2 LS.length q2) LS := sl_of_owns (fun _ _ => rfl) o2
      clear cC o2
      go_wp2_with (fail)
      go_loopw [4, 5, 7, 8, 9, 10, 11, 12, 49, 56, 71, 94] (fun ov bv i _ _ _ _ _ _ _ _ _ wr => ∃ (k : Nat) (out : List Pt) (opn : Bool), k ≤ LS.length ∧ i = .int .i64 k ∧ bv = .bool opn ∧ foldP ((LS.take k).map fun x => x.data.toList) ([], false) = some (out.map pt8, opn) ∧ (∃ x, ov = x ∧ wr.ownsRow w2.heap.size 41 2 x out.length (out.flatMap encPt)) ∧ (∀ p ∈ out, SlS wr p.2.1 p.2.2) ∧ Below w2.heap.size w2 wr) (fun _ _ i _ _ _ _ _ _ _ _ _ _ => LS.length - (RowKit.intOf i).toNat)
      case atStart => exact ⟨0, [], false, Nat.zero_le _, rfl, rfl, rfl, ⟨_, rfl, World.ownsRow_nil _ _ _ _⟩, by simp, Below.refl _ _⟩
      case round =>
        obtain ⟨k, out, opn, hk, rfl, rfl, hfo, ⟨x0, rfl, o0⟩, hwo, hB⟩ := hrel
        by_cases hkl : k < LS.length
        · have hkI : (k : Int) < (LS.length : Int) := by omega
          obtain ⟨xb, xo, cap3, he, h5, h6, hc3⟩ := z2.open (by rintro rfl; simp at hkl)
          simp only [Value.slice.injEq] at he
          obtain ⟨rfl, -, rfl⟩ := he
          have hxm := rangeAt_one (hc3 k LS[k] (List.getElem?_eq_getElem hkl))
          rw [Nat.mul_one] at hxm
          have hXz := hLz.out LS[k] (List.getElem_mem hkl)
          have hst := fold_more (l := LS.map fun x => x.data.toList) (k := k) (by rw [List.length_map]; exact hkl) (by rw [← List.map_take]; exact hfo)
          rw [← List.map_take, List.getElem_map] at hst
          obtain ⟨hwc, hol⟩ := word_count (k := k) hLm.out (by rw [← List.map_take]; exact hfo)
          have hinv := foldP_inv _ _ _ (by simp) hfo
          rw [size8] at hwc
          clear hc3
          generalize LS[k] = X at *
          replace hxm := hid hxm
          have cQ := hid (fun V => rWords_any X V (by omega))
          have hws8 := wds8 X
          have hwl := wdsB_len X
          have hBd := Below_dr hB
          have gxd := (Kept.of_below hBd 0).cell hxm.out
          generalize wdsB X = ws at *
          obtain ⟨px, qx, rfl, -, -⟩ := owns_shape o0
          replace hst := hid hst
          replace hfo := hid hfo
          replace hwo := hid hwo
          replace hinv := hid hinv
          replace hws8 := hid hws8
          go_upto_region 11 with (fail)
          go_cut [8, 9] (fun xv wv wx => xv = .string X ∧ ∃ pq qq, wv = .slice pq ws.length qq ∧ wx.ownsRow wr.heap.size 9 1 (.slice pq ws.length qq) ws.length (ws.flatMap encT) ∧ Below wr.heap.size wr wx)
          case first =>
            refine wp_region_any (by kernel_rfl) ?_
            try (change wpAny _ _ _ _ _ _ _ (World.drew _))
            refine wpAny_take (i := 0) (oi := ⟨some 27, _, _, _, _, _⟩) (v := ?_) rfl (by kernel_rfl) (by kernel_rfl) (by kernel_rfl) (fun _ _ _ h => h) (Or.inl ⟨by rfl, ?_⟩) ?_
            rotate_left
            · intro w; go_simp <;> with_reducible rfl
            simp only [Act.put, List.setIfInBounds_toArray, List.set_cons_zero, List.set_cons_succ]
            refine wpAny_take (i := 1) (oi := ⟨some 28, _, _, _, _, _⟩) (v := ?_) rfl (by kernel_rfl) (by kernel_rfl) (by kernel_rfl) (fun _ _ _ h => h) (Or.inl ⟨by rfl, ?_⟩) ?_
            rotate_left
            · intro w; go_simp <;> with_reducible rfl
            simp only [Act.put, List.setIfInBounds_toArray, List.set_cons_zero, List.set_cons_succ]
            refine wpAny_take (i := 2) (oi := ⟨some 29, _, _, _, _, _⟩) (v := ?_) rfl (by kernel_rfl) (by kernel_rfl) (by kernel_rfl) (fun _ _ _ h => h) (Or.inl ⟨by rfl, ?_⟩) ?_
            rotate_left
            · intro w; go_simp <;> with_reducible rfl
            simp only [Act.put, List.setIfInBounds_toArray, List.set_cons_zero, List.set_cons_succ]
            refine wpAny_take (i := 4) (oi := ⟨some 31, _, _, _, _, _⟩) (v := ?_) rfl (by kernel_rfl) (by kernel_rfl) (by kernel_rfl) (fun _ _ _ h => h) (Or.inl ⟨by rfl, ?_⟩) ?_
            rotate_left
            · intro w; go_simp <;> with_reducible rfl
            simp only [Act.put, List.setIfInBounds_toArray, List.set_cons_zero, List.set_cons_succ]
            refine wpAny_take (i := 5) (oi := ⟨some 32, _, _, _, _, _⟩) (v := ?_) rfl (by kernel_rfl) (by kernel_rfl) (by kernel_rfl) (fun _ _ _ h => h) (Or.inl ⟨by rfl, ?_⟩) ?_
            rotate_left
            · intro w; go_simp <;> with_reducible rfl
            simp only [Act.put, List.setIfInBounds_toArray, List.set_cons_zero, List.set_cons_succ]
            refine wpAny_take (i := 6) (oi := ⟨some 33, _, _, _, _, _⟩) (v := ?_) rfl (by kernel_rfl) (by kernel_rfl) (by kernel_rfl) (fun _ _ _ h => h) (Or.inl ⟨by rfl, ?_⟩) ?_
            rotate_left
            · intro w; go_simp <;> with_reducible rfl
            simp only [Act.put, List.setIfInBounds_toArray, List.set_cons_zero, List.set_cons_succ]
            refine wpAny_ready (rs := [3, 7]) (by kernel_rfl) (by simp) ?_
            refine AllReady.cons rfl (fun K hK => ?_) ?_
            · go_simp
              first | refine hK _ _ ?_ | refine ⟨trivial, hK _ _ ?_⟩ | refine ⟨fun _ _ => trivial, hK _ _ ?_⟩
              clear hK K
              refine wpAny_ready (rs := [7]) (by kernel_rfl) (by simp) ?_
              refine AllReady.cons rfl (fun K hK => ?_) AllReady.nil
              go_simp
              first | refine hK _ _ ?_ | refine ⟨trivial, hK _ _ ?_⟩ | refine ⟨fun _ _ => trivial, hK _ _ ?_⟩
              clear hK K
              refine wpAny_ready (rs := [8]) (by kernel_rfl) (by simp) ?_
              refine AllReady.cons rfl (fun K hK => ?_) AllReady.nil
              go_simp
              refine (cQ.out _).mono ?_
              rintro e w31 ⟨v31, rfl, o31, b31⟩
              obtain ⟨p31, q31, rfl, -, -⟩ := owns_shape o31
              have gx31 := (Kept.of_below b31 0).cell gxd
              first | refine hK _ _ ?_ | refine ⟨trivial, hK _ _ ?_⟩ | refine ⟨fun _ _ => trivial, hK _ _ ?_⟩
              clear hK K
              refine wpAny_take (i := 9) (oi := ⟨some 8, _, _, _, _, _⟩) (v := ?_) rfl (by kernel_rfl) (by kernel_rfl) (by kernel_rfl) (fun _ _ _ h => h) (Or.inl ⟨by rfl, ?_⟩) ?_
              rotate_left
              · intro w; go_simp <;> with_reducible rfl
              simp only [Act.put, List.setIfInBounds_toArray, List.set_cons_zero, List.set_cons_succ]
              refine wpAny_take (i := 10) (oi := ⟨some 9, _, _, _, _, _⟩) (v := ?_) rfl (by kernel_rfl) (by kernel_rfl) (by kernel_rfl) (fun _ _ _ h => h) (Or.inl ⟨by rfl, ?_⟩) ?_
              rotate_left
              · intro w; go_simp <;> with_reducible rfl
              simp only [Act.put, List.setIfInBounds_toArray, List.set_cons_zero, List.set_cons_succ]
              refine wpAny_done (by kernel_rfl) ?_ _
              go_wp2_with (fail)
              go_meet
              case rel => exact ⟨rfl, p31, q31, rfl, o31, (Below_dr (Below.refl wr.heap.size wr)).trans b31⟩
            refine AllReady.cons rfl (fun K hK => ?_) AllReady.nil
            go_simp
            first | refine hK _ _ ?_ | refine ⟨trivial, hK _ _ ?_⟩ | refine ⟨fun _ _ => trivial, hK _ _ ?_⟩
            clear hK K
            refine wpAny_ready (rs := [3, 8]) (by kernel_rfl) (by simp) ?_
            refine AllReady.cons rfl (fun K hK => ?_) ?_
            · go_simp
              first | refine hK _ _ ?_ | refine ⟨trivial, hK _ _ ?_⟩ | refine ⟨fun _ _ => trivial, hK _ _ ?_⟩
              clear hK K
              refine wpAny_ready (rs := [8]) (by kernel_rfl) (by simp) ?_
              refine AllReady.cons rfl (fun K hK => ?_) AllReady.nil
              go_simp
              refine (cQ.out _).mono ?_
              rintro e w31 ⟨v31, rfl, o31, b31⟩
              obtain ⟨p31, q31, rfl, -, -⟩ := owns_shape o31
              have gx31 := (Kept.of_below b31 0).cell gxd
              first | refine hK _ _ ?_ | refine ⟨trivial, hK _ _ ?_⟩ | refine ⟨fun _ _ => trivial, hK _ _ ?_⟩
              clear hK K
              refine wpAny_take (i := 9) (oi := ⟨some 8, _, _, _, _, _⟩) (v := ?_) rfl (by kernel_rfl) (by kernel_rfl) (by kernel_rfl) (fun _ _ _ h => h) (Or.inl ⟨by rfl, ?_⟩) ?_
              rotate_left
              · intro w; go_simp <;> with_reducible rfl
              simp only [Act.put, List.setIfInBounds_toArray, List.set_cons_zero, List.set_cons_succ]
              refine wpAny_take (i := 10) (oi := ⟨some 9, _, _, _, _, _⟩) (v := ?_) rfl (by kernel_rfl) (by kernel_rfl) (by kernel_rfl) (fun _ _ _ h => h) (Or.inl ⟨by rfl, ?_⟩) ?_
              rotate_left
              · intro w; go_simp <;> with_reducible rfl
              simp only [Act.put, List.setIfInBounds_toArray, List.set_cons_zero, List.set_cons_succ]
              refine wpAny_done (by kernel_rfl) ?_ _
              go_wp2_with (fail)
              go_meet
              case rel => exact ⟨rfl, p31, q31, rfl, o31, (Below_dr (Below.refl wr.heap.size wr)).trans b31⟩
            refine AllReady.cons rfl (fun K hK => ?_) AllReady.nil
            go_simp
            refine (cQ.out _).mono ?_
            rintro e w31 ⟨v31, rfl, o31, b31⟩
            obtain ⟨p31, q31, rfl, -, -⟩ := owns_shape o31
            have gx31 := (Kept.of_below b31 0).cell gxd
            first | refine hK _ _ ?_ | refine ⟨trivial, hK _ _ ?_⟩ | refine ⟨fun _ _ => trivial, hK _ _ ?_⟩
            clear hK K
            refine wpAny_ready (rs := [3]) (by kernel_rfl) (by simp) ?_
            refine AllReady.cons rfl (fun K hK => ?_) AllReady.nil
            go_simp
            first | refine hK _ _ ?_ | refine ⟨trivial, hK _ _ ?_⟩ | refine ⟨fun _ _ => trivial, hK _ _ ?_⟩
            clear hK K
            refine wpAny_take (i := 9) (oi := ⟨some 8, _, _, _, _, _⟩) (v := ?_) rfl (by kernel_rfl) (by kernel_rfl) (by kernel_rfl) (fun _ _ _ h => h) (Or.inl ⟨by rfl, ?_⟩) ?_
            rotate_left
            · intro w; go_simp <;> with_reducible rfl
            simp only [Act.put, List.setIfInBounds_toArray, List.set_cons_zero, List.set_cons_succ]
            refine wpAny_take (i := 10) (oi := ⟨some 9, _, _, _, _, _⟩) (v := ?_) rfl (by kernel_rfl) (by kernel_rfl) (by kernel_rfl) (fun _ _ _ h => h) (Or.inl ⟨by rfl, ?_⟩) ?_
            rotate_left
            · intro w; go_simp <;> with_reducible rfl
            simp only [Act.put, List.setIfInBounds_toArray, List.set_cons_zero, List.set_cons_succ]
            refine wpAny_done (by kernel_rfl) ?_ _
            go_wp2_with (fail)
            go_meet
            case rel => exact ⟨rfl, p31, q31, rfl, o31, (Below_dr (Below.refl wr.heap.size wr)).trans b31⟩
          case rest =>
            obtain ⟨rfl, pq, qq, rfl, ow, bc⟩ := hcut
            have o0c := (Kept.of_below bc 0).owns o0
            have hBc2 := hB.trans (bc.mono hB.size)
            have hwS0 := SlS.of_owns ow
            have agc := AgS.of_below bc
            replace hwo := hid (fun p hp => (hwo.out p hp).agr agc)
            clear o0 cQ
            have hsp : stepP X.data.toList (out.map pt8, opn) = if X.data.toList.take 2 = [61, 32] then (if wordsL (X.data.toList.drop 2) = [] then none else some (out.map pt8 ++ [(2, wordsL (X.data.toList.drop 2))], false)) else if X.data.toList.take 2 = [45, 32] then (if wordsL (X.data.toList.drop 2) = [] then none else some (out.map pt8 ++ [(3, wordsL (X.data.toList.drop 2))], false)) else if X.data.toList = [45, 45, 45] then some (out.map pt8 ++ [(4, [])], false) else if wordsL X.data.toList = [] then some (out.map pt8, false) else if opn = true then some (addLast (out.map pt8) (wordsL X.data.toList), true) else some (out.map pt8 ++ [(1, wordsL X.data.toList)], true) := rfl
            have hx2 : 2 ≤ X.size → (X.extract 0 2).toList = X.data.toList.take 2 := fun _ => by rw [Lib.toList_data, ex8]; rfl
            have hxl : X.toList = X.data.toList := Lib.toList_data X
            by_cases hE : X.data.toList = [45, 45, 45]
            · have hz3 : X.size = 3 := by rw [← size8, hE]; rfl
              have cE : (X.toList == [45, 45, 45]) = true := by rw [hxl, hE]; rfl
              have c1 : ((X.extract 0 2).toList == [61, 32]) = false := by rw [hx2 (by omega), hE]; rfl
              have c2 : ((X.extract 0 2).toList == [45, 32]) = false := by rw [hx2 (by omega), hE]; rfl
              have hnx : foldP ((LS.take (k + 1)).map fun x => x.data.toList) ([], false) = some ((out ++ [((4 : Int), Value.slice none 0 0, ([] : List ByteArray))]).map pt8, false) := by
                rw [hst.out, hsp, hE, if_neg (by decide), if_neg (by decide), if_pos rfl, List.map_append]; rfl
              replace hnx := hid hnx
              have hwS : SlS wc (.slice none 0 0) [] := SlS.none wc
              clear hsp hx2 hxl
              replace hE := hid hE
              have oA := o0c.alloc (.cells #[.int .i64 4, Value.slice none 0 0] 41)
              have slA : Sl (wc.alloc (.cells #[.int .i64 4, Value.slice none 0 0] 41)) 2 encPt (.slice (some ⟨wc.heap.size, 0, none⟩) 1 1) [((4 : Int), Value.slice none 0 0, [])] := sl_of_block (l := [((4 : Int), Value.slice none 0 0, [])]) (World.alloc_heap_new wc _) rfl (fun _ _ => rfl) (Nat.le_refl 1) (by decide)
              have hBA := hBc2.alloc hBc2.size (.cells #[.int .i64 4, Value.slice none 0 0] 41)
              have bA : Below wc.heap.size wc (wc.alloc (.cells #[.int .i64 4, Value.slice none 0 0] 41)) := (Below.refl _ wc).alloc (Nat.le_refl _) _
              go_wp2_with (at_builtin; go_must (first
                | (refine wpList_append_sl rfl _ _ 22 rfl w2.heap.size 41 j0 (.agg #[.int .i64 0, .slice none 0 0]) 2 32 Tryd.underlying22 hj hy0 hy1 hy2 rfl (by decide) _ _ _ rfl oA encPt _ [((4 : Int), Value.slice none 0 0, [])] rfl slA (fun x hx => by obtain rfl := List.mem_singleton.1 hx; exact ⟨rfl, fun u hu => by rcases List.mem_cons.1 hu with rfl | hu; rfl; obtain rfl := List.mem_singleton.1 hu; rfl⟩) (by unfold maxLen; simp only [List.length_cons, List.length_nil]; omega) (by simp only [List.length_cons, List.length_nil]; omega) hBA.size ?_
                   intro v9 V9 own9 grow9 _)))
              have agA := AgS.of_below bA
              have ag9 := AgS.grown oA (by decide) grow9
              have hB9 := hBA.grown grow9 hBA.size (fun _ e => own_base oA e)
              rw [← List.length_append, ← List.flatMap_append] at own9
              first | (refine ⟨⟨k + 1, out ++ [(4, Value.slice none 0 0, [])], false, by omega, by go_num, rfl, hnx.out, ⟨_, rfl, own9⟩, fun p hp => (List.mem_append.1 hp).elim (fun h => ((hwo.out p h).agr agA).agr ag9) (fun h => by obtain rfl := List.mem_singleton.1 h; exact ((hwS).agr agA).agr ag9), hB9⟩, ?_⟩; simp [RowKit.intOf]; omega) | (go_roundw; case rel => first | exact ⟨k + 1, out ++ [(4, Value.slice none 0 0, [])], false, by omega, by go_num, rfl, hnx.out, ⟨_, rfl, own9⟩, fun p hp => (List.mem_append.1 hp).elim (fun h => ((hwo.out p h).agr agA).agr ag9) (fun h => by obtain rfl := List.mem_singleton.1 h; exact ((hwS).agr agA).agr ag9), hB9⟩ | ((repeat apply Exists.intro); exact ⟨⟨k + 1, out ++ [(4, Value.slice none 0 0, [])], false, by omega, by go_num, rfl, hnx.out, ⟨_, rfl, own9⟩, fun p hp => (List.mem_append.1 hp).elim (fun h => ((hwo.out p h).agr agA).agr ag9) (fun h => by obtain rfl := List.mem_singleton.1 h; exact ((hwS).agr agA).agr ag9), hB9⟩, rfl⟩); case measure => simp [RowKit.intOf]; omega)
            · by_cases hH : X.data.toList.take 2 = [61, 32]
              · have hz2 : 2 ≤ X.size := by
                  have := congrArg List.length hH
                  rw [List.length_take, size8] at this
                  change min 2 X.size = 2 at this
                  omega
                have h2I : (2 : Int) ≤ (X.size : Int) := by omega
                have cE : (X.toList == [45, 45, 45]) = false := by rw [hxl, beq_eq_false_iff_ne]; exact hE
                have c1 : ((X.extract 0 2).toList == [61, 32]) = true := by rw [hx2 hz2, hH]; rfl
                have c2 : ((X.extract 0 2).toList == [45, 32]) = false := by rw [hx2 hz2, hH]; rfl
                have hXd : X.data.toList = 61 :: 32 :: X.data.toList.drop 2 := by
                  conv => lhs; rw [← List.take_append_drop 2 X.data.toList, hH]
                  rfl
                have hb0 : X[0].toNat = 61 := by
                  have h9 : X.data.toList[0]'(by rw [size8]; omega) = 61 := by
                    have : X.data.toList[0]? = some 61 := by rw [hXd]; rfl
                    rw [List.getElem?_eq_getElem (by rw [size8]; omega)] at this
                    exact Option.some.inj this
                  have h10 : X.data.toList[0]'(by rw [size8]; omega) = X[0] := rfl
                  rw [← h10, h9]; rfl
                have cB : ((X[0].toNat : Int) == 45) = false := by rw [hb0]; rfl
                have hwm : wordsL X.data.toList = [61] :: wordsL (X.data.toList.drop 2) := by
                  conv => lhs; rw [hXd]
                  exact wordsL_mark _ (by decide) _
                rw [hwm] at hws8
                obtain ⟨y, r, rfl⟩ : ∃ y r, ws = y :: r := by
                  cases ws with
                  | nil => exact absurd hws8.out (by simp)
                  | cons y r => exact ⟨y, r, rfl⟩
                have hr8 : (r.map fun w => w.data.toList) = wordsL (X.data.toList.drop 2) := by
                  have := hws8.out
                  rw [List.map_cons, List.cons.injEq] at this
                  exact this.2
                obtain ⟨gb, go, gc, he9, g1, g2, -⟩ := hwS0.self.open (by simp)
                simp only [Value.slice.injEq] at he9
                obtain ⟨rfl, -, rfl⟩ := he9
                rw [if_pos hH] at hsp
                by_cases hr0 : r = []
                · subst hr0
                  have hno : foldP ((LS.take (k + 1)).map fun x => x.data.toList) ([], false) = none := by
                    rw [hst.out, hsp, if_pos (show wordsL (X.data.toList.drop 2) = [] from hr8.symm)]
                  have hno2 : parseL s.data.toList = none := by
                    unfold parseL
                    rw [List.map_take] at hno
                    rw [← hLm.out, fold_none hno]; rfl
                  rw [hno2] at hpr
                  replace hpr := hid hpr
                  clear hno hno2 hsp hr8 hx2 hxl hXd hwm hb0
                  replace hH := hid hH

                  replace hE := hid hE
                  go_wp2_with (fail)
                  go_ret2
                  exact ⟨_, [], 15, rfl, hpr.out, World.ownsRow_nil _ _ _ _, by simp, (b1.trans (b2.mono b1.size)).trans (hBc2.mono (b1.trans (b2.mono b1.size)).size)⟩
                · have hnx : foldP ((LS.take (k + 1)).map fun x => x.data.toList) ([], false) = some ((out ++ [((2 : Int), Value.slice (some ⟨gb, go + 1, none⟩) r.length (qq - 1), r)]).map pt8, false) := by
                    rw [hst.out, hsp, if_neg (by rw [← hr8]; simpa using hr0), List.map_append, ← hr8]; rfl
                  have hwS := hwS0.tail
                  have hrl : 1 ≤ r.length := by
                    cases r with
                    | nil => exact absurd rfl hr0
                    | cons a b => simp
                  have hr2 : ¬ (((y :: r).length : Int) < 2) := by simp only [List.length_cons]; omega
                  have hr3 : ((y :: r).length : Int) = (r.length : Int) + 1 := by simp
                  have hr4 : (y :: r).length - 1 = r.length := by simp
                  have hr5 : (y :: r).length = r.length + 1 := by simp
                  rw [hr5] at ow hwS0 g1 hwl
                  rw [hr5]
                  have hmx9 : r.length ≤ maxLen := by omega
                  unfold maxLen at hmx9 g2
                  replace hnx := hid hnx
                  clear hsp hr8 hx2 hxl hXd hwm hb0 hr2 hr3 hr4 hr5 hwS0 ow hr0
                  replace hH := hid hH

                  replace hE := hid hE
                  have oA := o0c.alloc (.cells #[.int .i64 2, Value.slice (some ⟨gb, go + 1, none⟩) r.length (qq - 1)] 41)
                  have slA : Sl (wc.alloc (.cells #[.int .i64 2, Value.slice (some ⟨gb, go + 1, none⟩) r.length (qq - 1)] 41)) 2 encPt (.slice (some ⟨wc.heap.size, 0, none⟩) 1 1) [((2 : Int), Value.slice (some ⟨gb, go + 1, none⟩) r.length (qq - 1), r)] := sl_of_block (l := [((2 : Int), Value.slice (some ⟨gb, go + 1, none⟩) r.length (qq - 1), r)]) (World.alloc_heap_new wc _) rfl (fun _ _ => rfl) (Nat.le_refl 1) (by decide)
                  have hBA := hBc2.alloc hBc2.size (.cells #[.int .i64 2, Value.slice (some ⟨gb, go + 1, none⟩) r.length (qq - 1)] 41)
                  have bA : Below wc.heap.size wc (wc.alloc (.cells #[.int .i64 2, Value.slice (some ⟨gb, go + 1, none⟩) r.length (qq - 1)] 41)) := (Below.refl _ wc).alloc (Nat.le_refl _) _
                  go_wp2_with (at_builtin; go_must (first
                    | (refine wpList_append_sl rfl _ _ 22 rfl w2.heap.size 41 j0 (.agg #[.int .i64 0, .slice none 0 0]) 2 32 Tryd.underlying22 hj hy0 hy1 hy2 rfl (by decide) _ _ _ rfl oA encPt _ [((2 : Int), Value.slice (some ⟨gb, go + 1, none⟩) r.length (qq - 1), r)] rfl slA (fun x hx => by obtain rfl := List.mem_singleton.1 hx; exact ⟨rfl, fun u hu => by rcases List.mem_cons.1 hu with rfl | hu; rfl; obtain rfl := List.mem_singleton.1 hu; rfl⟩) (by unfold maxLen; simp only [List.length_cons, List.length_nil]; omega) (by simp only [List.length_cons, List.length_nil]; omega) hBA.size ?_
                       intro v9 V9 own9 grow9 _)))
                  have agA := AgS.of_below bA
                  have ag9 := AgS.grown oA (by decide) grow9
                  have hB9 := hBA.grown grow9 hBA.size (fun _ e => own_base oA e)
                  rw [← List.length_append, ← List.flatMap_append] at own9
                  first | (refine ⟨⟨k + 1, out ++ [(2, Value.slice (some ⟨gb, go + 1, none⟩) r.length (qq - 1), r)], false, by omega, by go_num, rfl, hnx.out, ⟨_, rfl, own9⟩, fun p hp => (List.mem_append.1 hp).elim (fun h => ((hwo.out p h).agr agA).agr ag9) (fun h => by obtain rfl := List.mem_singleton.1 h; exact ((hwS).agr agA).agr ag9), hB9⟩, ?_⟩; simp [RowKit.intOf]; omega) | (go_roundw; case rel => first | exact ⟨k + 1, out ++ [(2, Value.slice (some ⟨gb, go + 1, none⟩) r.length (qq - 1), r)], false, by omega, by go_num, rfl, hnx.out, ⟨_, rfl, own9⟩, fun p hp => (List.mem_append.1 hp).elim (fun h => ((hwo.out p h).agr agA).agr ag9) (fun h => by obtain rfl := List.mem_singleton.1 h; exact ((hwS).agr agA).agr ag9), hB9⟩ | ((repeat apply Exists.intro); exact ⟨⟨k + 1, out ++ [(2, Value.slice (some ⟨gb, go + 1, none⟩) r.length (qq - 1), r)], false, by omega, by go_num, rfl, hnx.out, ⟨_, rfl, own9⟩, fun p hp => (List.mem_append.1 hp).elim (fun h => ((hwo.out p h).agr agA).agr ag9) (fun h => by obtain rfl := List.mem_singleton.1 h; exact ((hwS).agr agA).agr ag9), hB9⟩, rfl⟩); case measure => simp [RowKit.intOf]; omega)
              · by_cases hP : X.data.toList.take 2 = [45, 32]
                · have hz2 : 2 ≤ X.size := by
                    have := congrArg List.length hP
                    rw [List.length_take, size8] at this
                    change min 2 X.size = 2 at this
                    omega
                  have h2I : (2 : Int) ≤ (X.size : Int) := by omega
                  have cE : (X.toList == [45, 45, 45]) = false := by rw [hxl, beq_eq_false_iff_ne]; exact hE
                  have c1 : ((X.extract 0 2).toList == [61, 32]) = false := by rw [hx2 hz2, hP]; rfl
                  have c2 : ((X.extract 0 2).toList == [45, 32]) = true := by rw [hx2 hz2, hP]; rfl
                  have hXd : X.data.toList = 45 :: 32 :: X.data.toList.drop 2 := by
                    conv => lhs; rw [← List.take_append_drop 2 X.data.toList, hP]
                    rfl
                  have hb0 : X[0].toNat = 45 := by
                    have h9 : X.data.toList[0]'(by rw [size8]; omega) = 45 := by
                      have : X.data.toList[0]? = some 45 := by rw [hXd]; rfl
                      rw [List.getElem?_eq_getElem (by rw [size8]; omega)] at this
                      exact Option.some.inj this
                    have h10 : X.data.toList[0]'(by rw [size8]; omega) = X[0] := rfl
                    rw [← h10, h9]; rfl
                  have cB : ((X[0].toNat : Int) == 45) = true := by rw [hb0]; rfl
                  have hwm : wordsL X.data.toList = [45] :: wordsL (X.data.toList.drop 2) := by
                    conv => lhs; rw [hXd]
                    exact wordsL_mark _ (by decide) _
                  rw [hwm] at hws8
                  obtain ⟨y, r, rfl⟩ : ∃ y r, ws = y :: r := by
                    cases ws with
                    | nil => exact absurd hws8.out (by simp)
                    | cons y r => exact ⟨y, r, rfl⟩
                  have hr8 : (r.map fun w => w.data.toList) = wordsL (X.data.toList.drop 2) := by
                    have := hws8.out
                    rw [List.map_cons, List.cons.injEq] at this
                    exact this.2
                  obtain ⟨gb, go, gc, he9, g1, g2, -⟩ := hwS0.self.open (by simp)
                  simp only [Value.slice.injEq] at he9
                  obtain ⟨rfl, -, rfl⟩ := he9
                  rw [if_neg hH, if_pos hP] at hsp
                  by_cases hr0 : r = []
                  · subst hr0
                    have hno : foldP ((LS.take (k + 1)).map fun x => x.data.toList) ([], false) = none := by
                      rw [hst.out, hsp, if_pos (show wordsL (X.data.toList.drop 2) = [] from hr8.symm)]
                    have hno2 : parseL s.data.toList = none := by
                      unfold parseL
                      rw [List.map_take] at hno
                      rw [← hLm.out, fold_none hno]; rfl
                    rw [hno2] at hpr
                    replace hpr := hid hpr
                    clear hno hno2 hsp hr8 hx2 hxl hXd hwm hb0
                    replace hH := hid hH
                    replace hP := hid hP
                    replace hE := hid hE
                    go_wp2_with (fail)
                    go_ret2
                    exact ⟨_, [], 15, rfl, hpr.out, World.ownsRow_nil _ _ _ _, by simp, (b1.trans (b2.mono b1.size)).trans (hBc2.mono (b1.trans (b2.mono b1.size)).size)⟩
                  · have hnx : foldP ((LS.take (k + 1)).map fun x => x.data.toList) ([], false) = some ((out ++ [((3 : Int), Value.slice (some ⟨gb, go + 1, none⟩) r.length (qq - 1), r)]).map pt8, false) := by
                      rw [hst.out, hsp, if_neg (by rw [← hr8]; simpa using hr0), List.map_append, ← hr8]; rfl
                    have hwS := hwS0.tail
                    have hrl : 1 ≤ r.length := by
                      cases r with
                      | nil => exact absurd rfl hr0
                      | cons a b => simp
                    have hr2 : ¬ (((y :: r).length : Int) < 2) := by simp only [List.length_cons]; omega
                    have hr3 : ((y :: r).length : Int) = (r.length : Int) + 1 := by simp
                    have hr4 : (y :: r).length - 1 = r.length := by simp
                    have hr5 : (y :: r).length = r.length + 1 := by simp
                    rw [hr5] at ow hwS0 g1 hwl
                    rw [hr5]
                    have hmx9 : r.length ≤ maxLen := by omega
                    unfold maxLen at hmx9 g2
                    replace hnx := hid hnx
                    clear hsp hr8 hx2 hxl hXd hwm hb0 hr2 hr3 hr4 hr5 hwS0 ow hr0
                    replace hH := hid hH
                    replace hP := hid hP
                    replace hE := hid hE
                    have oA := o0c.alloc (.cells #[.int .i64 3, Value.slice (some ⟨gb, go + 1, none⟩) r.length (qq - 1)] 41)
                    have slA : Sl (wc.alloc (.cells #[.int .i64 3, Value.slice (some ⟨gb, go + 1, none⟩) r.length (qq - 1)] 41)) 2 encPt (.slice (some ⟨wc.heap.size, 0, none⟩) 1 1) [((3 : Int), Value.slice (some ⟨gb, go + 1, none⟩) r.length (qq - 1), r)] := sl_of_block (l := [((3 : Int), Value.slice (some ⟨gb, go + 1, none⟩) r.length (qq - 1), r)]) (World.alloc_heap_new wc _) rfl (fun _ _ => rfl) (Nat.le_refl 1) (by decide)
                    have hBA := hBc2.alloc hBc2.size (.cells #[.int .i64 3, Value.slice (some ⟨gb, go + 1, none⟩) r.length (qq - 1)] 41)
                    have bA : Below wc.heap.size wc (wc.alloc (.cells #[.int .i64 3, Value.slice (some ⟨gb, go + 1, none⟩) r.length (qq - 1)] 41)) := (Below.refl _ wc).alloc (Nat.le_refl _) _
                    go_wp2_with (at_builtin; go_must (first
                      | (refine wpList_append_sl rfl _ _ 22 rfl w2.heap.size 41 j0 (.agg #[.int .i64 0, .slice none 0 0]) 2 32 Tryd.underlying22 hj hy0 hy1 hy2 rfl (by decide) _ _ _ rfl oA encPt _ [((3 : Int), Value.slice (some ⟨gb, go + 1, none⟩) r.length (qq - 1), r)] rfl slA (fun x hx => by obtain rfl := List.mem_singleton.1 hx; exact ⟨rfl, fun u hu => by rcases List.mem_cons.1 hu with rfl | hu; rfl; obtain rfl := List.mem_singleton.1 hu; rfl⟩) (by unfold maxLen; simp only [List.length_cons, List.length_nil]; omega) (by simp only [List.length_cons, List.length_nil]; omega) hBA.size ?_
                         intro v9 V9 own9 grow9 _)))
                    have agA := AgS.of_below bA
                    have ag9 := AgS.grown oA (by decide) grow9
                    have hB9 := hBA.grown grow9 hBA.size (fun _ e => own_base oA e)
                    rw [← List.length_append, ← List.flatMap_append] at own9
                    first | (refine ⟨⟨k + 1, out ++ [(3, Value.slice (some ⟨gb, go + 1, none⟩) r.length (qq - 1), r)], false, by omega, by go_num, rfl, hnx.out, ⟨_, rfl, own9⟩, fun p hp => (List.mem_append.1 hp).elim (fun h => ((hwo.out p h).agr agA).agr ag9) (fun h => by obtain rfl := List.mem_singleton.1 h; exact ((hwS).agr agA).agr ag9), hB9⟩, ?_⟩; simp [RowKit.intOf]; omega) | (go_roundw; case rel => first | exact ⟨k + 1, out ++ [(3, Value.slice (some ⟨gb, go + 1, none⟩) r.length (qq - 1), r)], false, by omega, by go_num, rfl, hnx.out, ⟨_, rfl, own9⟩, fun p hp => (List.mem_append.1 hp).elim (fun h => ((hwo.out p h).agr agA).agr ag9) (fun h => by obtain rfl := List.mem_singleton.1 h; exact ((hwS).agr agA).agr ag9), hB9⟩ | ((repeat apply Exists.intro); exact ⟨⟨k + 1, out ++ [(3, Value.slice (some ⟨gb, go + 1, none⟩) r.length (qq - 1), r)], false, by omega, by go_num, rfl, hnx.out, ⟨_, rfl, own9⟩, fun p hp => (List.mem_append.1 hp).elim (fun h => ((hwo.out p h).agr agA).agr ag9) (fun h => by obtain rfl := List.mem_singleton.1 h; exact ((hwS).agr agA).agr ag9), hB9⟩, rfl⟩); case measure => simp [RowKit.intOf]; omega)
                · have cE : (X.toList == [45, 45, 45]) = false := by rw [hxl, beq_eq_false_iff_ne]; exact hE
                  have c1 : 2 ≤ X.size → ((X.extract 0 2).toList == [61, 32]) = false := fun h => by rw [hx2 h, beq_eq_false_iff_ne]; exact hH
                  have c2 : 2 ≤ X.size → ((X.extract 0 2).toList == [45, 32]) = false := fun h => by rw [hx2 h, beq_eq_false_iff_ne]; exact hP
                  rw [if_neg hH, if_neg hP, if_neg hE] at hsp
                  have hw0 : wordsL X.data.toList = [] ↔ ws = [] := by rw [← hws8.out, List.map_eq_nil_iff]
                  replace hH := hid hH
                  replace hP := hid hP
                  replace hE := hid hE
                  clear hx2 hxl
                  by_cases hsz2 : 2 ≤ X.size
                  · have d1 := c1 hsz2
                    have d2 := c2 hsz2
                    have h2I : (2 : Int) ≤ (X.size : Int) := by omega
                    clear c1 c2
                    by_cases hwz : ws = []
                    · have hnx : foldP ((LS.take (k + 1)).map fun x => x.data.toList) ([], false) = some (out.map pt8, false) := by
                        rw [hst.out, hsp, if_pos (hw0.2 hwz)]
                      have hw9 : ¬ (0 : Int) < (ws.length : Int) := by rw [hwz]; decide
                      replace hnx := hid hnx
                      replace hwz := hid hwz
                      clear hsp hw0
                      go_wp2_with (fail)
                      first | (refine ⟨⟨k + 1, out, false, by omega, by go_num, rfl, hnx.out, ⟨_, rfl, o0c⟩, hwo.out, hBc2⟩, ?_⟩; simp [RowKit.intOf]; omega) | (go_roundw; case rel => first | exact ⟨k + 1, out, false, by omega, by go_num, rfl, hnx.out, ⟨_, rfl, o0c⟩, hwo.out, hBc2⟩ | ((repeat apply Exists.intro); exact ⟨⟨k + 1, out, false, by omega, by go_num, rfl, hnx.out, ⟨_, rfl, o0c⟩, hwo.out, hBc2⟩, rfl⟩); case measure => simp [RowKit.intOf]; omega)
                    · have hw9 : (0 : Int) < (ws.length : Int) := by
                        have := List.length_pos_iff.2 hwz; omega
                      rw [if_neg (fun h => hwz (hw0.1 h))] at hsp
                      replace hwz := hid hwz
                      clear hw0
                      by_cases hop : opn = true
                      · subst hop
                        rw [if_pos rfl, ← hws8.out] at hsp
                        have hne := hinv.out rfl
                        obtain ⟨pre, ⟨kd, vl, wl⟩, rfl⟩ : ∃ pre q, out = pre ++ [q] := ⟨out.dropLast, out.getLast (by simpa using hne), (List.dropLast_concat_getLast (by simpa using hne)).symm⟩
                        have hnx : ∀ v', foldP ((LS.take (k + 1)).map fun x => x.data.toList) ([], false) = some ((pre ++ [(kd, v', wl ++ ws)]).map pt8, true) := fun v' => by
                          rw [hst.out, hsp, List.map_append, List.map_append]
                          show some (addLast (pre.map pt8 ++ [(kd, wl.map fun w => w.data.toList)]) _, true) = _
                          rw [addLast_snoc]
                          show _ = some (pre.map pt8 ++ [(kd, (wl ++ ws).map fun w => w.data.toList)], true)
                          rw [List.map_append]
                        replace hnx := hid hnx
                        clear hsp hne
                        have hwlS := hwo.out (kd, vl, wl) (List.mem_append_right _ (List.mem_singleton.2 rfl))
                        obtain ⟨pl, ql, evl, hwlm⟩ := hwlS.self.shape
                        dsimp only at evl hwlS hwlm
                        subst evl
                        have hwln : wl.length ≤ s.size + 1 := Nat.le_trans (wcount_mem (p := (kd, _, wl)) (List.mem_append_right pre (List.mem_singleton.2 rfl))) hwc
                        rw [List.length_append, List.length_cons, List.length_nil, Nat.zero_add] at o0c hol
                        obtain ⟨g, hgp⟩ : ∃ g, px = some ⟨g, 0, none⟩ := by
                          obtain ⟨-, ⟨e, -⟩ | ⟨g, c, cs, e, -⟩⟩ := o0c
                          · cases e
                          · simp only [Value.slice.injEq] at e
                            exact ⟨g, e.1⟩
                        subst hgp
                        obtain ⟨-, cur, hcur, hcv⟩ := rowP_set (v' := .slice none 0 0) (ws' := []) o0c
                        have gl := cell_blk (i := pre.length * 2 + 1) hcur hcv
                        have gfr := frozen_blk hcur (i := pre.length * 2 + 1)
                        have ownE := owns_empty wc wc.heap.size 9 1 (Nat.le_refl _)
                        have bE : Below wc.heap.size wc (wc.alloc (.cells #[] 9)) := (Below.refl _ wc).alloc (Nat.le_refl _) _
                        have slE := (hwlS.agr (AgS.of_below bE)).self
                        have glE := (Kept.of_below bE 0).cell gl
                        have hpl : (pre.length + 1 : Nat) - 1 = pre.length := by omega
                        have hpi : wrap64 (((pre.length + 1 : Nat) : Int) - 1) = (pre.length : Int) := by unfold wrap64; omega
                        have hpz : pre.length ≤ 1000002 := by omega
                        go_wp2_with (at_builtin; go_must (first
                          | (refine wpList_append_sl rfl _ _ 37 rfl wc.heap.size 9 i0 (.string ⟨#[]⟩) 1 16 Tryd.underlying37 hi hz0 hz1 hz2 rfl (by decide) _ _ _ rfl own6 encT _ ws rfl sl6 (n1e ws) (by unfold maxLen; omega) (by omega) b6.size ?_
                             intro v7 V7 own7 grow7 _
                             have b7 := b6.grown grow7 b6.size (fun _ e => own_base own6 e)
                             obtain ⟨p7, q7, rfl, -, -⟩ := owns_shape own7
                             rw [← List.length_append, ← List.flatMap_append] at own7
                             have o7 := (Kept.of_below b7 0).owns o0c
                             have hcur7 := (b7.block g (Array.getElem?_eq_some_iff.1 hcur).1).trans hcur
                             have gfr7 := frozen_blk hcur7 (i := pre.length * 2 + 1)
                             have gl7 := cell_blk (i := pre.length * 2 + 1) hcur7 hcv)
                          | (refine wpList_append_sl rfl _ _ 37 rfl wc.heap.size 9 i0 (.string ⟨#[]⟩) 1 16 Tryd.underlying37 hi hz0 hz1 hz2 rfl (by decide) _ _ _ rfl ownE encT _ wl rfl slE (n1e wl) (by unfold maxLen; omega) (by omega) bE.size ?_
                             intro v6 V6 own6 grow6 _
                             rw [Nat.zero_add, List.nil_append] at own6
                             obtain ⟨p6, q6, rfl, -, -⟩ := owns_shape own6
                             have b6 := bE.grown grow6 bE.size (fun _ e => own_base ownE e)
                             have sl6 := (hwS0.agr (AgS.of_below b6)).self)))
                        have b7s := AgS.of_below b7
                        have r7 := (rowP_set (v' := (Value.slice p7 (wl.length + ws.length) q7)) (ws' := wl ++ ws) o7).1
                        have hws7 : SlS V7 (Value.slice p7 (wl.length + ws.length) q7) (wl ++ ws) := by
                          have h := SlS.of_owns own7
                          rw [List.length_append] at h
                          exact h
                        have ags := AgS.setCell (i := pre.length * 2 + 1) hcur7 (by decide) (Value.slice p7 (wl.length + ws.length) q7)
                        have hB7 := hBc2.trans (b7.mono hBc2.size)
                        have hgw : w2.heap.size ≤ g := own_base o0c rfl
                        have hB8 := hB7.setCell (p := ⟨g, pre.length * 2 + 1, none⟩) hgw (Value.slice p7 (wl.length + ws.length) q7)
                        refine ⟨⟨k + 1, pre ++ [(kd, (Value.slice p7 (wl.length + ws.length) q7), wl ++ ws)], true, by omega, by go_num, rfl, hnx.out (Value.slice p7 (wl.length + ws.length) q7), ⟨_, rfl, by rw [List.length_append, List.length_cons, List.length_nil, Nat.zero_add]; exact r7⟩, fun p hp => (List.mem_append.1 hp).elim (fun h => ((hwo.out p (List.mem_append_left _ h)).agr b7s).agr ags) (fun h => by obtain rfl := List.mem_singleton.1 h; exact hws7.agr ags), hB8⟩, by simp [RowKit.intOf]; omega⟩
                      · obtain rfl : opn = false := by simpa using hop
                        rw [if_neg (by decide), ← hws8.out] at hsp
                        have hnx : foldP ((LS.take (k + 1)).map fun x => x.data.toList) ([], false) = some ((out ++ [((1 : Int), Value.slice pq ws.length qq, ws)]).map pt8, true) := by
                          rw [hst.out, hsp, List.map_append]; rfl
                        replace hnx := hid hnx
                        have hwS := hwS0
                        clear hsp
                        have oA := o0c.alloc (.cells #[.int .i64 1, Value.slice pq ws.length qq] 41)
                        have slA : Sl (wc.alloc (.cells #[.int .i64 1, Value.slice pq ws.length qq] 41)) 2 encPt (.slice (some ⟨wc.heap.size, 0, none⟩) 1 1) [((1 : Int), Value.slice pq ws.length qq, ws)] := sl_of_block (l := [((1 : Int), Value.slice pq ws.length qq, ws)]) (World.alloc_heap_new wc _) rfl (fun _ _ => rfl) (Nat.le_refl 1) (by decide)
                        have hBA := hBc2.alloc hBc2.size (.cells #[.int .i64 1, Value.slice pq ws.length qq] 41)
                        have bA : Below wc.heap.size wc (wc.alloc (.cells #[.int .i64 1, Value.slice pq ws.length qq] 41)) := (Below.refl _ wc).alloc (Nat.le_refl _) _
                        go_wp2_with (at_builtin; go_must (first
                          | (refine wpList_append_sl rfl _ _ 22 rfl w2.heap.size 41 j0 (.agg #[.int .i64 0, .slice none 0 0]) 2 32 Tryd.underlying22 hj hy0 hy1 hy2 rfl (by decide) _ _ _ rfl oA encPt _ [((1 : Int), Value.slice pq ws.length qq, ws)] rfl slA (fun x hx => by obtain rfl := List.mem_singleton.1 hx; exact ⟨rfl, fun u hu => by rcases List.mem_cons.1 hu with rfl | hu; rfl; obtain rfl := List.mem_singleton.1 hu; rfl⟩) (by unfold maxLen; simp only [List.length_cons, List.length_nil]; omega) (by simp only [List.length_cons, List.length_nil]; omega) hBA.size ?_
                             intro v9 V9 own9 grow9 _)))
                        have agA := AgS.of_below bA
                        have ag9 := AgS.grown oA (by decide) grow9
                        have hB9 := hBA.grown grow9 hBA.size (fun _ e => own_base oA e)
                        rw [← List.length_append, ← List.flatMap_append] at own9
                        first | (refine ⟨⟨k + 1, out ++ [(1, Value.slice pq ws.length qq, ws)], true, by omega, by go_num, rfl, hnx.out, ⟨_, rfl, own9⟩, fun p hp => (List.mem_append.1 hp).elim (fun h => ((hwo.out p h).agr agA).agr ag9) (fun h => by obtain rfl := List.mem_singleton.1 h; exact ((hwS).agr agA).agr ag9), hB9⟩, ?_⟩; simp [RowKit.intOf]; omega) | (go_roundw; case rel => first | exact ⟨k + 1, out ++ [(1, Value.slice pq ws.length qq, ws)], true, by omega, by go_num, rfl, hnx.out, ⟨_, rfl, own9⟩, fun p hp => (List.mem_append.1 hp).elim (fun h => ((hwo.out p h).agr agA).agr ag9) (fun h => by obtain rfl := List.mem_singleton.1 h; exact ((hwS).agr agA).agr ag9), hB9⟩ | ((repeat apply Exists.intro); exact ⟨⟨k + 1, out ++ [(1, Value.slice pq ws.length qq, ws)], true, by omega, by go_num, rfl, hnx.out, ⟨_, rfl, own9⟩, fun p hp => (List.mem_append.1 hp).elim (fun h => ((hwo.out p h).agr agA).agr ag9) (fun h => by obtain rfl := List.mem_singleton.1 h; exact ((hwS).agr agA).agr ag9), hB9⟩, rfl⟩); case measure => simp [RowKit.intOf]; omega)
                  · have h2I : ¬ (2 : Int) ≤ (X.size : Int) := by omega
                    clear c1 c2
                    by_cases hwz : ws = []
                    · have hnx : foldP ((LS.take (k + 1)).map fun x => x.data.toList) ([], false) = some (out.map pt8, false) := by
                        rw [hst.out, hsp, if_pos (hw0.2 hwz)]
                      have hw9 : ¬ (0 : Int) < (ws.length : Int) := by rw [hwz]; decide
                      replace hnx := hid hnx
                      replace hwz := hid hwz
                      clear hsp hw0
                      go_wp2_with (fail)
                      first | (refine ⟨⟨k + 1, out, false, by omega, by go_num, rfl, hnx.out, ⟨_, rfl, o0c⟩, hwo.out, hBc2⟩, ?_⟩; simp [RowKit.intOf]; omega) | (go_roundw; case rel => first | exact ⟨k + 1, out, false, by omega, by go_num, rfl, hnx.out, ⟨_, rfl, o0c⟩, hwo.out, hBc2⟩ | ((repeat apply Exists.intro); exact ⟨⟨k + 1, out, false, by omega, by go_num, rfl, hnx.out, ⟨_, rfl, o0c⟩, hwo.out, hBc2⟩, rfl⟩); case measure => simp [RowKit.intOf]; omega)
                    · have hw9 : (0 : Int) < (ws.length : Int) := by
                        have := List.length_pos_iff.2 hwz; omega
                      rw [if_neg (fun h => hwz (hw0.1 h))] at hsp
                      replace hwz := hid hwz
                      clear hw0
                      by_cases hop : opn = true
                      · subst hop
                        rw [if_pos rfl, ← hws8.out] at hsp
                        have hne := hinv.out rfl
                        obtain ⟨pre, ⟨kd, vl, wl⟩, rfl⟩ : ∃ pre q, out = pre ++ [q] := ⟨out.dropLast, out.getLast (by simpa using hne), (List.dropLast_concat_getLast (by simpa using hne)).symm⟩
                        have hnx : ∀ v', foldP ((LS.take (k + 1)).map fun x => x.data.toList) ([], false) = some ((pre ++ [(kd, v', wl ++ ws)]).map pt8, true) := fun v' => by
                          rw [hst.out, hsp, List.map_append, List.map_append]
                          show some (addLast (pre.map pt8 ++ [(kd, wl.map fun w => w.data.toList)]) _, true) = _
                          rw [addLast_snoc]
                          show _ = some (pre.map pt8 ++ [(kd, (wl ++ ws).map fun w => w.data.toList)], true)
                          rw [List.map_append]
                        replace hnx := hid hnx
                        clear hsp hne
                        have hwlS := hwo.out (kd, vl, wl) (List.mem_append_right _ (List.mem_singleton.2 rfl))
                        obtain ⟨pl, ql, evl, hwlm⟩ := hwlS.self.shape
                        dsimp only at evl hwlS hwlm
                        subst evl
                        have hwln : wl.length ≤ s.size + 1 := Nat.le_trans (wcount_mem (p := (kd, _, wl)) (List.mem_append_right pre (List.mem_singleton.2 rfl))) hwc
                        rw [List.length_append, List.length_cons, List.length_nil, Nat.zero_add] at o0c hol
                        obtain ⟨g, hgp⟩ : ∃ g, px = some ⟨g, 0, none⟩ := by
                          obtain ⟨-, ⟨e, -⟩ | ⟨g, c, cs, e, -⟩⟩ := o0c
                          · cases e
                          · simp only [Value.slice.injEq] at e
                            exact ⟨g, e.1⟩
                        subst hgp
                        obtain ⟨-, cur, hcur, hcv⟩ := rowP_set (v' := .slice none 0 0) (ws' := []) o0c
                        have gl := cell_blk (i := pre.length * 2 + 1) hcur hcv
                        have gfr := frozen_blk hcur (i := pre.length * 2 + 1)
                        have ownE := owns_empty wc wc.heap.size 9 1 (Nat.le_refl _)
                        have bE : Below wc.heap.size wc (wc.alloc (.cells #[] 9)) := (Below.refl _ wc).alloc (Nat.le_refl _) _
                        have slE := (hwlS.agr (AgS.of_below bE)).self
                        have glE := (Kept.of_below bE 0).cell gl
                        have hpl : (pre.length + 1 : Nat) - 1 = pre.length := by omega
                        have hpi : wrap64 (((pre.length + 1 : Nat) : Int) - 1) = (pre.length : Int) := by unfold wrap64; omega
                        have hpz : pre.length ≤ 1000002 := by omega
                        go_wp2_with (at_builtin; go_must (first
                          | (refine wpList_append_sl rfl _ _ 37 rfl wc.heap.size 9 i0 (.string ⟨#[]⟩) 1 16 Tryd.underlying37 hi hz0 hz1 hz2 rfl (by decide) _ _ _ rfl own6 encT _ ws rfl sl6 (n1e ws) (by unfold maxLen; omega) (by omega) b6.size ?_
                             intro v7 V7 own7 grow7 _
                             have b7 := b6.grown grow7 b6.size (fun _ e => own_base own6 e)
                             obtain ⟨p7, q7, rfl, -, -⟩ := owns_shape own7
                             rw [← List.length_append, ← List.flatMap_append] at own7
                             have o7 := (Kept.of_below b7 0).owns o0c
                             have hcur7 := (b7.block g (Array.getElem?_eq_some_iff.1 hcur).1).trans hcur
                             have gfr7 := frozen_blk hcur7 (i := pre.length * 2 + 1)
                             have gl7 := cell_blk (i := pre.length * 2 + 1) hcur7 hcv)
                          | (refine wpList_append_sl rfl _ _ 37 rfl wc.heap.size 9 i0 (.string ⟨#[]⟩) 1 16 Tryd.underlying37 hi hz0 hz1 hz2 rfl (by decide) _ _ _ rfl ownE encT _ wl rfl slE (n1e wl) (by unfold maxLen; omega) (by omega) bE.size ?_
                             intro v6 V6 own6 grow6 _
                             rw [Nat.zero_add, List.nil_append] at own6
                             obtain ⟨p6, q6, rfl, -, -⟩ := owns_shape own6
                             have b6 := bE.grown grow6 bE.size (fun _ e => own_base ownE e)
                             have sl6 := (hwS0.agr (AgS.of_below b6)).self)))
                        have b7s := AgS.of_below b7
                        have r7 := (rowP_set (v' := (Value.slice p7 (wl.length + ws.length) q7)) (ws' := wl ++ ws) o7).1
                        have hws7 : SlS V7 (Value.slice p7 (wl.length + ws.length) q7) (wl ++ ws) := by
                          have h := SlS.of_owns own7
                          rw [List.length_append] at h
                          exact h
                        have ags := AgS.setCell (i := pre.length * 2 + 1) hcur7 (by decide) (Value.slice p7 (wl.length + ws.length) q7)
                        have hB7 := hBc2.trans (b7.mono hBc2.size)
                        have hgw : w2.heap.size ≤ g := own_base o0c rfl
                        have hB8 := hB7.setCell (p := ⟨g, pre.length * 2 + 1, none⟩) hgw (Value.slice p7 (wl.length + ws.length) q7)
                        refine ⟨⟨k + 1, pre ++ [(kd, (Value.slice p7 (wl.length + ws.length) q7), wl ++ ws)], true, by omega, by go_num, rfl, hnx.out (Value.slice p7 (wl.length + ws.length) q7), ⟨_, rfl, by rw [List.length_append, List.length_cons, List.length_nil, Nat.zero_add]; exact r7⟩, fun p hp => (List.mem_append.1 hp).elim (fun h => ((hwo.out p (List.mem_append_left _ h)).agr b7s).agr ags) (fun h => by obtain rfl := List.mem_singleton.1 h; exact hws7.agr ags), hB8⟩, by simp [RowKit.intOf]; omega⟩
                      · obtain rfl : opn = false := by simpa using hop
                        rw [if_neg (by decide), ← hws8.out] at hsp
                        have hnx : foldP ((LS.take (k + 1)).map fun x => x.data.toList) ([], false) = some ((out ++ [((1 : Int), Value.slice pq ws.length qq, ws)]).map pt8, true) := by
                          rw [hst.out, hsp, List.map_append]; rfl
                        replace hnx := hid hnx
                        have hwS := hwS0
                        clear hsp
                        have oA := o0c.alloc (.cells #[.int .i64 1, Value.slice pq ws.length qq] 41)
                        have slA : Sl (wc.alloc (.cells #[.int .i64 1, Value.slice pq ws.length qq] 41)) 2 encPt (.slice (some ⟨wc.heap.size, 0, none⟩) 1 1) [((1 : Int), Value.slice pq ws.length qq, ws)] := sl_of_block (l := [((1 : Int), Value.slice pq ws.length qq, ws)]) (World.alloc_heap_new wc _) rfl (fun _ _ => rfl) (Nat.le_refl 1) (by decide)
                        have hBA := hBc2.alloc hBc2.size (.cells #[.int .i64 1, Value.slice pq ws.length qq] 41)
                        have bA : Below wc.heap.size wc (wc.alloc (.cells #[.int .i64 1, Value.slice pq ws.length qq] 41)) := (Below.refl _ wc).alloc (Nat.le_refl _) _
                        go_wp2_with (at_builtin; go_must (first
                          | (refine wpList_append_sl rfl _ _ 22 rfl w2.heap.size 41 j0 (.agg #[.int .i64 0, .slice none 0 0]) 2 32 Tryd.underlying22 hj hy0 hy1 hy2 rfl (by decide) _ _ _ rfl oA encPt _ [((1 : Int), Value.slice pq ws.length qq, ws)] rfl slA (fun x hx => by obtain rfl := List.mem_singleton.1 hx; exact ⟨rfl, fun u hu => by rcases List.mem_cons.1 hu with rfl | hu; rfl; obtain rfl := List.mem_singleton.1 hu; rfl⟩) (by unfold maxLen; simp only [List.length_cons, List.length_nil]; omega) (by simp only [List.length_cons, List.length_nil]; omega) hBA.size ?_
                             intro v9 V9 own9 grow9 _)))
                        have agA := AgS.of_below bA
                        have ag9 := AgS.grown oA (by decide) grow9
                        have hB9 := hBA.grown grow9 hBA.size (fun _ e => own_base oA e)
                        rw [← List.length_append, ← List.flatMap_append] at own9
                        first | (refine ⟨⟨k + 1, out ++ [(1, Value.slice pq ws.length qq, ws)], true, by omega, by go_num, rfl, hnx.out, ⟨_, rfl, own9⟩, fun p hp => (List.mem_append.1 hp).elim (fun h => ((hwo.out p h).agr agA).agr ag9) (fun h => by obtain rfl := List.mem_singleton.1 h; exact ((hwS).agr agA).agr ag9), hB9⟩, ?_⟩; simp [RowKit.intOf]; omega) | (go_roundw; case rel => first | exact ⟨k + 1, out ++ [(1, Value.slice pq ws.length qq, ws)], true, by omega, by go_num, rfl, hnx.out, ⟨_, rfl, own9⟩, fun p hp => (List.mem_append.1 hp).elim (fun h => ((hwo.out p h).agr agA).agr ag9) (fun h => by obtain rfl := List.mem_singleton.1 h; exact ((hwS).agr agA).agr ag9), hB9⟩ | ((repeat apply Exists.intro); exact ⟨⟨k + 1, out ++ [(1, Value.slice pq ws.length qq, ws)], true, by omega, by go_num, rfl, hnx.out, ⟨_, rfl, own9⟩, fun p hp => (List.mem_append.1 hp).elim (fun h => ((hwo.out p h).agr agA).agr ag9) (fun h => by obtain rfl := List.mem_singleton.1 h; exact ((hwS).agr agA).agr ag9), hB9⟩, rfl⟩); case measure => simp [RowKit.intOf]; omega)
        · obtain rfl : k = LS.length := by omega
          rw [List.take_length] at hfo
          have hyes : parseL s.data.toList = some (out.map pt8) := by
            unfold parseL
            rw [← hLm.out, hfo]; rfl
          rw [hyes] at hpr
          replace hpr := hid hpr
          replace hfo := hid hfo
          clear hyes
          go_wp2_with (fail)
          go_ret2
          have B2 := b1.trans (b2.mono b1.size)
          exact ⟨_, out, 0, rfl, hpr.out, owns_downQ B2.size o0, fun p hp => (hwo p hp).self, B2.trans (hB.mono B2.size)⟩
    · rw [if_neg hpl] at hpr
      simp only [hpl, decide_false] at cP ⊢
      go_wp2_with (fail)
      go_ret2
      exact ⟨_, [], 15, rfl, hpr, World.ownsRow_nil _ _ _ _, by simp, b1⟩
end Go.Proofs.YtgbfekimflnaiaaDoor
