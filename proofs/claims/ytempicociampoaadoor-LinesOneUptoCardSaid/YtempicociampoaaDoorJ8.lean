/- An append of a whole slice to one that the call owns. The walk of hyphen.Points. -/
import Derived.BigFrame
import Derived.Test.YtempicociampoaaDoorRange
import Derived.Laws.AppendOwnNone
import Derived.Test.YtempicociampoaaDoorHypV
namespace Go.Proofs.YtempicociampoaaDoor
open Go.RowKit

section
variable {P : Program}
theorem run_append_sl {α : Type} (w : World) (base : Nat) (t ty e : TypeId) (i : TypeInfo) (z : Value) (size bytes : Nat) (ht : P.underlying t = some (.slice e)) (hi : P.info? e = some i) (hz : i.zero = some z)
    (hsize : i.size = size) (hby : i.bytes = bytes) (hzs : z.cells.size = size) (hsz : 0 < size) (v : Value) (n : Nat) (xs : List Value) (hown : w.ownsRow base e size v n xs)
    (enc : α → List Value) (vx : Value) (l : List α) (hx : Sl w size enc vx l) (he : ∀ x ∈ l, (enc x).length = size ∧ ∀ u ∈ enc x, u.oneCell' = true)
    (h63 : n + l.length ≤ maxLen) (hbytes : (n + l.length) * bytes ≤ 140737488355328) (hbase : base ≤ w.heap.size) :
    ∃ v' w', (Builtin.append_ #[t, t] ty #[v, vx]).run P w = .ok v' w' ∧ w'.ownsRow base e size v' (n + l.length) (xs ++ l.flatMap enc) ∧ w.grownBy w' v.ownBlock ∧ (v' = .slice none 0 0 ↔ v = .slice none 0 0 ∧ l = []) := by
  rcases hx with ⟨rfl, rfl⟩ | ⟨ad, cap, rfl, h1, h2, hsp, h3⟩
  · exact ⟨v, w, run_append_owned_none (P := P) (w := w) base t ty e i size ht hi v n xs hown, by simpa using hown, ⟨rfl, rfl, rfl, Nat.le_refl _, fun _ _ _ => rfl⟩, by simp⟩
  · have hlen : (l.flatMap enc).length = l.length * size := by
      clear h3 hbytes h63 h1 hsp
      induction l with
      | nil => simp
      | cons y l ih =>
        rw [List.flatMap_cons, List.length_append, (he y (by simp)).1, ih (fun x hx => he x (by simp [hx])), List.length_cons, Nat.succ_mul, Nat.add_comm]
    have key : ∀ (l : List α) (q : Nat), (∀ x ∈ l, (enc x).length = size) → (∀ i x, l[i]? = some x → w.rangeAt ad.block (q + i * size) (enc x)) → ∀ j u, (l.flatMap enc)[j]? = some u → w.cell? ⟨ad.block, q + j, none⟩ = some u := by
      intro l
      induction l with
      | nil => intro q _ _ j u h; simp at h
      | cons y l ih =>
        intro q hl hr j u h
        rw [List.flatMap_cons] at h
        by_cases hj : j < size
        · rw [List.getElem?_append_left (by rw [hl y (by simp)]; exact hj)] at h
          have := hr 0 y (by simp) j u h
          simpa using this
        · rw [List.getElem?_append_right (by rw [hl y (by simp)]; omega), hl y (by simp)] at h
          have := ih (q + size) (fun x hx => hl x (by simp [hx])) (fun i x hi => by have := hr (i + 1) x (by simpa using hi); rw [Nat.succ_mul] at this; rwa [show q + size + i * size = q + (i * size + size) by omega]) (j - size) u h
          rwa [show q + size + (j - size) = q + j by omega] at this
    obtain ⟨v', w', r1, r2, r3, r4⟩ := run_append_own (P := P) (w := w) base t ty e i z size bytes ht hi hz hsize hby hzs hsz v n xs hown ad l.length cap (l.flatMap enc) hlen
      (fun j u h => by
        have := key l ad.off (fun x hx => (he x hx).1) h3 j u h
        have hne : l ≠ [] := by rintro rfl; simp at h
        have e : ad.add j = ⟨ad.block, ad.off + j, none⟩ := by
          obtain ⟨b, o, sp⟩ := ad
          obtain rfl : sp = none := hsp hne
          unfold Addr.add; split <;> simp_all
        rwa [e])
      (fun u hu => by obtain ⟨x, hx, hu⟩ := List.mem_flatMap.1 hu; exact (he x hx).2 u hu) h63 hbytes hbase
    exact ⟨v', w', r1, r2, r3, by rw [r4, List.length_eq_zero_iff]⟩

theorem wpList_append_sl {α : Type} {w : World} {ops : Array Oper} {rest : List Oper} {o : Oper} {a : Act} {Q : Exit → Act → World → Prop}
    (hg : o.guard = none) (s x : Operand) (t : TypeId) (hop : o.op = Op.call { callee := Callee.builtin Builtin.append, args := #[s, x], argTypes := #[t, t] })
    (base : Nat) (e : TypeId) (i : TypeInfo) (z : Value) (size bytes : Nat) (h1 : P.underlying t = some (.slice e)) (h2 : P.info? e = some i) (h3 : i.zero = some z) (h4 : i.size = size) (h5 : i.bytes = bytes) (h6 : z.cells.size = size) (h7 : 0 < size)
    (v : Value) (k : Nat) (xs : List Value) (hs : a.eval s = v) (hown : w.ownsRow base e size v k xs)
    (enc : α → List Value) (vx : Value) (l : List α) (hx : a.eval x = vx) (hsl : Sl w size enc vx l) (he : ∀ x ∈ l, (enc x).length = size ∧ ∀ u ∈ enc x, u.oneCell' = true)
    (b1 : k + l.length ≤ maxLen) (b2 : (k + l.length) * bytes ≤ 140737488355328) (b3 : base ≤ w.heap.size)
    (hK : ∀ v' w', w'.ownsRow base e size v' (k + l.length) (xs ++ l.flatMap enc) → w.grownBy w' v.ownBlock → (v' = .slice none 0 0 ↔ v = .slice none 0 0 ∧ l = []) → wpList P ops Q rest (a.put o.dst v') w') :
    wpList P ops Q (o :: rest) a w := by
  refine wpList_plain hg fun K hK' => ?_
  obtain ⟨v', w', hrun, r1, r2, r3⟩ := run_append_sl (P := P) w base t o.type e i z size bytes h1 h2 h3 h4 h5 h6 h7 v k xs hown enc vx l hsl he b1 b2 b3
  unfold Oper.wp
  simp [execOp, hop, resolve, invoke, builtin, hs, hx, hrun, Result.andThen]
  exact hK' _ _ (hK v' w' r1 r2 r3)

theorem wpListIn_append_sl {α : Type} {F : Fence} {n : Nat} {w : World} {ops : Array Oper} {rest : List Oper} {o : Oper} {a : Act} {Q : Exit → Act → World → Prop}
    (hg : o.guard = none) (s x : Operand) (t : TypeId) (hop : o.op = Op.call { callee := Callee.builtin Builtin.append, args := #[s, x], argTypes := #[t, t] })
    (base : Nat) (e : TypeId) (i : TypeInfo) (z : Value) (size bytes : Nat) (h1 : P.underlying t = some (.slice e)) (h2 : P.info? e = some i) (h3 : i.zero = some z) (h4 : i.size = size) (h5 : i.bytes = bytes) (h6 : z.cells.size = size) (h7 : 0 < size)
    (v : Value) (k : Nat) (xs : List Value) (hs : a.eval s = v) (hown : w.ownsRow base e size v k xs)
    (enc : α → List Value) (vx : Value) (l : List α) (hx : a.eval x = vx) (hsl : Sl w size enc vx l) (he : ∀ x ∈ l, (enc x).length = size ∧ ∀ u ∈ enc x, u.oneCell' = true)
    (b1 : k + l.length ≤ maxLen) (b2 : (k + l.length) * bytes ≤ 140737488355328) (b3 : base ≤ w.heap.size)
    (hK : ∀ v' w', w'.ownsRow base e size v' (k + l.length) (xs ++ l.flatMap enc) → w.grownBy w' v.ownBlock → (v' = .slice none 0 0 ↔ v = .slice none 0 0 ∧ l = []) → wpListIn F n P ops Q rest (a.put o.dst v') w') :
    wpListIn F n P ops Q (o :: rest) a w := by
  refine wpListIn_plain hg fun K hK' => ?_
  obtain ⟨v', w', hrun, r1, r2, r3⟩ := run_append_sl (P := P) w base t o.type e i z size bytes h1 h2 h3 h4 h5 h6 h7 v k xs hown enc vx l hsl he b1 b2 b3
  unfold Oper.wpIn
  refine ⟨?_, ?_⟩
  · simp [Oper.about, hop, resolve, Target.leads, Sem.run_pure]
  · rw [Oper.semAt_plain F _ _ (by rw [hop]; intro c hc'; cases hc')]
    simp [execOp, hop, resolve, invoke, builtin, hs, hx, hrun, Result.andThen]
    exact hK' _ _ (hK v' w' r1 r2 r3)
end

theorem encI_enc (l : List Int) : ∀ x ∈ l, (encI x).length = 1 ∧ ∀ u ∈ encI x, u.oneCell' = true := fun x _ => ⟨rfl, fun u hu => by
  obtain rfl : u = .int .i64 x := by simpa [encI] using hu
  rfl⟩

end Go.Proofs.YtempicociampoaaDoor
namespace Go.Proofs.YtempicociampoaaDoor
open Go.RowKit Go.Shelf
attribute [local go_sem] Oper.semAt_some

theorem dig_numbersL (s : List UInt8) : dig (numbersL s) := by
  unfold numbersL
  split
  · intro x hx; cases hx
  · exact dig_numsOf _
theorem numbersL_len (s : List UInt8) : (numbersL s).length ≤ 59 := by
  unfold numbersL smallL
  split
  · simp
  · rename_i lw h
    split at h
    · rename_i hc
      cases h
      rw [numsOf_len (by rw [List.length_map]; omega), List.length_map]
      omega
    · cases h

theorem owns_down {W : World} {b b' : Nat} {e : TypeId} {size : Nat} {v : Value} {n : Nat} {xs : List Value} (hb : b' ≤ b) (h : W.ownsRow b e size v n xs) : W.ownsRow b' e size v n xs := by
  obtain ⟨h1, h2⟩ := h
  refine ⟨h1, ?_⟩
  rcases h2 with h2 | ⟨g, cap, cur, hv, hg, r⟩
  · exact .inl h2
  · exact .inr ⟨g, cap, cur, hv, Nat.le_trans hb hg, r⟩

set_option maxRecDepth 100000 in
set_option maxHeartbeats 4000000 in
theorem PointsO_any (s : ByteArray) (w : World) (hs : s.size ≤ 1000) (hR : Asp w) :
    Calls Tryd.prog 80 #[.string s] w fun e w' => ∃ v, e = .returned v ∧ w'.ownsRow w.heap.size 3 1 v (pointsL (numbersL s.data.toList)).length ((pointsL (numbersL s.data.toList)).flatMap encI) ∧ Below w.heap.size w w' := by
  have hc1 := hid (Numbers_any s w hs hR)
  have hdg := dig_numbersL s.data.toList
  have hln := numbersL_len s.data.toList
  generalize numbersL s.data.toList = NL at *
  have hPL := hid (show pointsL NL = if NL.length + 1 < 5 then [] else pointsTo NL NL.length from rfl)
  generalize pointsL NL = PL at *
  obtain ⟨i0, hi, hz0, hz1, hz2⟩ := info_parts Tryd.infoI
  go_enter Tryd.func80, Tryd.ntmps80
  go_wp2_with (fail)
  refine hc1.out.mono ?_
  rintro e w1 ⟨v, rfl, hsl, hB1⟩
  obtain ⟨pu, cu, rfl, hu⟩ := hsl.shape
  by_cases hl5 : ((NL.length : Nat) : Int) + 1 < 5
  · go_wp2_with (fail)
    go_ret
    refine ⟨_, rfl, ?_, hB1⟩
    rw [hPL.out, if_pos (by omega)]
    exact World.ownsRow_nil _ _ _ _
  · replace hPL := hid (show PL = pointsTo NL NL.length by rw [hPL.out, if_neg (by omega)])
    have hne : NL ≠ [] := by rintro rfl; simp at hl5
    go_wp2_with (fail)
    go_loopw [5, 18] (fun v i wr => ∃ k : Nat, k ≤ NL.length ∧ i = .int .i64 k ∧ (∃ u, v = u ∧ wr.ownsRow w1.heap.size 3 1 u (pointsTo NL k).length ((pointsTo NL k).flatMap encI)) ∧ Below w1.heap.size w1 wr) (fun _ i _ => NL.length - (RowKit.intOf i).toNat)
    case atStart => exact ⟨0, Nat.zero_le _, rfl, ⟨_, rfl, World.ownsRow_nil _ _ _ _⟩, Below.refl _ _⟩
    case round =>
      obtain ⟨k, hk, rfl, ⟨_, rfl, hrow⟩, hB⟩ := hrel
      obtain ⟨pv, cv, rfl, hv1, hv2⟩ := owns_shape hrow
      unfold maxLen at hv2
      by_cases hkl : k < NL.length
      · obtain ⟨nb, no, cap, e1, e2, e3, e4⟩ := hsl.open hne
        simp only [Value.slice.injEq] at e1
        obtain ⟨rfl, -, rfl⟩ := e1
        have hck := rangeAt_one (e4 k NL[k] (List.getElem?_eq_getElem hkl))
        rw [Nat.mul_one] at hck
        have hnlt : nb < w1.heap.size := by
          cases h5 : w1.heap[nb]? with
          | none => simp [World.cell?, h5] at hck
          | some o => exact (Array.getElem?_eq_some_iff.1 h5).1
        have hckr := (hB.cell (p := ⟨nb, no + k, none⟩) hnlt).trans hck
        have hnd := hdg NL[k] (List.getElem_mem _)
        have hpt : pointsTo NL (k + 1) = pointsTo NL k ++ (if NL[k] % 2 = 1 ∧ 2 ≤ k + 1 ∧ k + 1 + 3 ≤ NL.length + 1 then [((k : Int) + 1)] else []) := by
          rw [pointsTo, List.getD_eq_getElem?_getD, List.getElem?_eq_getElem hkl]; rfl
        have hpl := pointsTo_len NL k
        replace hpt := hid hpt
        clear hck e4
        generalize NL[k] = n at *
        by_cases c1 : n % 2 = 1
        · by_cases c2 : (2 : Int) ≤ k + 1
          · by_cases c3 : (3 : Int) ≤ NL.length + 1 - (k + 1)
            · have hq := hid (show pointsTo NL (k + 1) = pointsTo NL k ++ [(k : Int) + 1] by rw [hpt.out, if_pos ⟨c1, by omega, by omega⟩])
              go_wp2_with (at_builtin; go_must (refine wpList_append_own _ rfl _ _ 44 rfl w1.heap.size 3 i0 (.int .i64 0) 1 8 Tryd.underlying44 hi hz0 hz1 hz2 rfl (by decide) _ (pointsTo NL k).length _ rfl (hrow.alloc _) ⟨_, 0, none⟩ 1 1 [.int .i64 ((k : Int) + 1)] rfl rfl (cells_new _ _ _) (by simp [Value.oneCell']) (by unfold maxLen; omega) (by omega) (by have := hB.size; simp; omega) ?_; intro v' w2 hown' hgrow _))
              have hB2 := hB.alloc hB.size (.cells #[.int .i64 ((k : Int) + 1)] 3)
              refine ⟨⟨k + 1, by omega, by go_num, ⟨_, rfl, ?_⟩, hB2.grown hgrow hB2.size (fun j e => own_base hrow e)⟩, by simp [RowKit.intOf]; omega⟩
              rw [hq.out]; simpa [encI] using hown'
            · have hq : pointsTo NL (k + 1) = pointsTo NL k := by rw [hpt.out, if_neg (by omega), List.append_nil]
              replace hq := hid hq
              go_wp2_with (fail)
              exact ⟨⟨k + 1, by omega, by go_num, ⟨_, rfl, by rw [hq.out]; exact hrow⟩, hB⟩, by simp [RowKit.intOf]; omega⟩
          · have hq : pointsTo NL (k + 1) = pointsTo NL k := by rw [hpt.out, if_neg (by omega), List.append_nil]
            replace hq := hid hq
            go_wp2_with (fail)
            exact ⟨⟨k + 1, by omega, by go_num, ⟨_, rfl, by rw [hq.out]; exact hrow⟩, hB⟩, by simp [RowKit.intOf]; omega⟩
        · have hq : pointsTo NL (k + 1) = pointsTo NL k := by rw [hpt.out, if_neg (by omega), List.append_nil]
          replace hq := hid hq
          go_wp2_with (fail)
          exact ⟨⟨k + 1, by omega, by go_num, ⟨_, rfl, by rw [hq.out]; exact hrow⟩, hB⟩, by simp [RowKit.intOf]; omega⟩
      · obtain rfl : k = NL.length := by omega
        have hsl2 := owns_down hB1.size hrow
        go_wp2_with (fail)
        go_ret
        refine ⟨_, rfl, ?_, hB1.trans (hB.mono hB1.size)⟩
        rw [hPL.out]
        exact hsl2

end Go.Proofs.YtempicociampoaaDoor
