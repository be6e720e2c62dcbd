/- The walk of the reference's Hex (printed by gen_sck.py). -/
import Derived.Test.YtkmnmigpnbehaaaDoorScJ
import Derived.Deep.QuietTactic
import Derived.Deep.DeepCutAuto
namespace Go.Proofs.YtkmnmigpnbehaaaDoor
open Go.RowKit Go.Shelf Go.Lib

section
variable {P : Program}
theorem wp_append_sl {α : Type} {w : World} {o : Oper} {a : Act} {K : Act → World → Prop} {Q : Exit → Act → World → Prop}
    (s x : Operand) (t : TypeId) (hop : o.op = Op.call { callee := Callee.builtin Builtin.append, args := #[s, x], argTypes := #[t, t] })
    (base : Nat) (e : TypeId) (i : TypeInfo) (z : Value) (size bytes : Nat) (h1 : P.underlying t = some (.slice e)) (h2 : P.info? e = some i) (h3 : i.zero = some z) (h4 : i.size = size) (h5 : i.bytes = bytes) (h6 : z.cells.size = size) (h7 : 0 < size)
    (v : Value) (k : Nat) (xs : List Value) (hs : a.eval s = v) (hown : w.ownsRow base e size v k xs)
    (enc : α → List Value) (vx : Value) (l : List α) (hx : a.eval x = vx) (hsl : Sl w size enc vx l) (he : ∀ x ∈ l, (enc x).length = size ∧ ∀ u ∈ enc x, u.oneCell' = true)
    (b1 : k + l.length ≤ maxLen) (b2 : (k + l.length) * bytes ≤ 140737488355328) (b3 : base ≤ w.heap.size)
    (hK : ∀ v' w', w'.ownsRow base e size v' (k + l.length) (xs ++ l.flatMap enc) → w.grownBy w' v.ownBlock → (v' = .slice none 0 0 ↔ v = .slice none 0 0 ∧ l = []) → K (a.put o.dst v') w') :
    o.wp P a w K Q := by
  obtain ⟨v', w', hrun, r1, r2, r3⟩ := run_append_sl (P := P) w base t o.type e i z size bytes h1 h2 h3 h4 h5 h6 h7 v k xs hown enc vx l hsl he b1 b2 b3
  unfold Oper.wp
  simp [execOp, hop, resolve, invoke, builtin, hs, hx, hrun, Result.andThen]
  exact hK v' w' r1 r2 r3
end

theorem digB_at {k : Nat} (h : k < 16) : ∃ hk : k < digB.size, digB[k] = dig k := by
  have : ∀ k, k < 16 → digB.data.toList[k]? = some (dig k) := by decide +kernel
  have h1 := this k h
  refine ⟨h, ?_⟩
  rw [List.getElem?_eq_getElem (show k < digB.data.toList.length from h)] at h1
  exact Option.some.inj h1

set_option maxRecDepth 100000 in
set_option maxHeartbeats 8000000 in
theorem rHex_any (s : ByteArray) (w : World) (hs : s.size ≤ 1000000) :
    Calls Tryd.prog 13 #[.string s] w fun e w' => e = .returned (.string ⟨(hexS s.data.toList).toArray⟩) ∧ Below w.heap.size w w' := by
  have hl : s.toList = s.data.toList := Lib.toList_data s
  have hz : s.data.toList.length = s.size := Lib.size_eq s |>.symm
  have hX : hexS s.data.toList = if s.data.toList = [] then [45] else s.data.toList.flatMap hx := rfl
  obtain ⟨i0, hi, hz0, hz1, hz2⟩ := info_parts Tryd.infoU8
  by_cases h0 : s.data.toList = []
  · have he : s.toList.isEmpty = true := by rw [hl, h0]; rfl
    rw [if_pos h0] at hX
    rw [hX]
    replace hX := hid hX
    replace h0 := hid h0
    clear hl hz
    go_enter Tryd.func13, Tryd.ntmps13
    go_wp2_with (fail)
    go_ret
    exact ⟨rfl, Below.refl _ _⟩
  · have he : s.toList.isEmpty = false := by
      rw [hl]
      cases e : s.data.toList with
      | nil => exact absurd e h0
      | cons a b => rfl
    rw [if_neg h0] at hX
    rw [hX]
    replace hX := hid hX
    replace hl := hid hl
    replace h0 := hid h0
    go_enter Tryd.func13, Tryd.ntmps13
    go_wp2_with (fail)
    go_loopw [3, 4] (fun ov i wr => ∃ k : Nat, k ≤ s.size ∧ i = .int .i64 k ∧ (∃ x, ov = x ∧ wr.ownsRow w.heap.size 5 1 x ((s.data.toList.take k).flatMap hx).length (((s.data.toList.take k).flatMap hx).flatMap encB)) ∧ Below w.heap.size w wr) (fun _ i _ => s.size - (RowKit.intOf i).toNat)
    case atStart => exact ⟨0, Nat.zero_le _, rfl, ⟨_, rfl, World.ownsRow_nil _ _ _ _⟩, Below.refl _ _⟩
    case round =>
      obtain ⟨k, hk, rfl, ⟨x0, rfl, o0⟩, hB⟩ := hrel
      by_cases hkl : k < s.size
      · have hkI : (k : Int) < (s.size : Int) := by omega
        have hll : k < s.data.toList.length := by rw [hz]; exact hkl
        have hg : s.data.toList[k] = s[k] := rfl
        have htk : s.data.toList.take (k + 1) = s.data.toList.take k ++ [s[k]] := by rw [List.take_succ_eq_append_getElem hll, hg]
        clear hg
        obtain ⟨c, hc⟩ : ∃ c, s[k] = c := ⟨_, rfl⟩
        rw [hc] at htk
        have hcl := c.toNat_lt
        obtain ⟨q, hq⟩ : ∃ q, c.toNat / 16 = q := ⟨_, rfl⟩
        obtain ⟨r, hr⟩ : ∃ q, c.toNat % 16 = q := ⟨_, rfl⟩
        have hq1 : (c.toNat : Int).tdiv 16 = (q : Int) := by rw [← hq]; rfl
        have hr1 : (c.toNat : Int).tmod 16 = (r : Int) := by rw [← hr]; rfl
        have hq2 : (c.toNat : Int) / 16 = (q : Int) := by rw [← hq]; rfl
        have hr2 : (c.toNat : Int) % 16 = (r : Int) := by rw [← hr]; rfl
        have hqI : (q : Int) < 16 := by omega
        have hrI : (r : Int) < 16 := by omega
        have hwq : IntKind.u8.wrap (q : Int) = (q : Int) := by rw [IntKind.wrap_u8]; omega
        have hwr : IntKind.u8.wrap (r : Int) = (r : Int) := by rw [IntKind.wrap_u8]; omega
        replace hq := hid hq
        replace hr := hid hr
        replace htk := hid htk
        obtain ⟨hq3, hq4⟩ := digB_at (k := q) (by omega)
        obtain ⟨hr3, hr4⟩ := digB_at (k := r) (by omega)
        unfold digB at hq3 hr3 hq4 hr4
        replace hq4 := hid hq4
        replace hr4 := hid hr4
        have hlenk : ((s.data.toList.take k).flatMap hx).length ≤ 2000000 := by
          have : ∀ l : L8, (l.flatMap hx).length = 2 * l.length := fun l => by
            induction l with
            | nil => rfl
            | cons a b ih => rw [List.flatMap_cons, List.length_append, ih]; simp [hx]; omega
          rw [this, List.length_take, hz]; omega
        have hnx : (s.data.toList.take (k + 1)).flatMap hx = (s.data.toList.take k).flatMap hx ++ [dig q, dig r] := by
          rw [htk.out, List.flatMap_append]
          simp only [List.flatMap_cons, List.flatMap_nil, List.append_nil, hx, hq.out, hr.out]
        obtain ⟨F, hF⟩ : ∃ F, (s.data.toList.take k).flatMap hx = F := ⟨_, rfl⟩
        rw [hF] at o0 hlenk hnx
        replace hF := hid hF
        replace hnx := hid hnx
        obtain ⟨px, qx, rfl, -, -⟩ := owns_shape o0
        have oA : (wr.drew.alloc (.cells #[.int .u8 ((⟨#[48, 49, 50, 51, 52, 53, 54, 55, 56, 57, 97, 98, 99, 100, 101, 102]⟩ : ByteArray)[q]'hq3).toNat, .int .u8 ((⟨#[48, 49, 50, 51, 52, 53, 54, 55, 56, 57, 97, 98, 99, 100, 101, 102]⟩ : ByteArray)[r]'hr3).toNat] 5)).ownsRow w.heap.size 5 1 _ _ _ := World.ownsRow.alloc (w := wr.drew) o0 _
        have slA : Sl (wr.drew.alloc (.cells #[.int .u8 ((⟨#[48, 49, 50, 51, 52, 53, 54, 55, 56, 57, 97, 98, 99, 100, 101, 102]⟩ : ByteArray)[q]'hq3).toNat, .int .u8 ((⟨#[48, 49, 50, 51, 52, 53, 54, 55, 56, 57, 97, 98, 99, 100, 101, 102]⟩ : ByteArray)[r]'hr3).toNat] 5)) 1 encB (.slice (some ⟨wr.heap.size, 0, none⟩) 2 2) [((⟨#[48, 49, 50, 51, 52, 53, 54, 55, 56, 57, 97, 98, 99, 100, 101, 102]⟩ : ByteArray)[q]'hq3), ((⟨#[48, 49, 50, 51, 52, 53, 54, 55, 56, 57, 97, 98, 99, 100, 101, 102]⟩ : ByteArray)[r]'hr3)] := sl_of_block (l := [((⟨#[48, 49, 50, 51, 52, 53, 54, 55, 56, 57, 97, 98, 99, 100, 101, 102]⟩ : ByteArray)[q]'hq3), ((⟨#[48, 49, 50, 51, 52, 53, 54, 55, 56, 57, 97, 98, 99, 100, 101, 102]⟩ : ByteArray)[r]'hr3)]) (World.alloc_heap_new wr.drew _) rfl (fun _ _ => rfl) (Nat.le_refl 2) (by decide)
        have hBA : Below w.heap.size w (wr.drew.alloc (.cells #[.int .u8 ((⟨#[48, 49, 50, 51, 52, 53, 54, 55, 56, 57, 97, 98, 99, 100, 101, 102]⟩ : ByteArray)[q]'hq3).toNat, .int .u8 ((⟨#[48, 49, 50, 51, 52, 53, 54, 55, 56, 57, 97, 98, 99, 100, 101, 102]⟩ : ByteArray)[r]'hr3).toNat] 5)) := (Below_drS hB).alloc hB.size _
        have hbs := hBA.size
        go_upto_region 7 with (fail)
        refine wp_region_any (by kernel_rfl) ?_
        try (change wpAny _ _ _ _ _ _ _ (World.drew _))
        refine wpAny_take (i := 0) (oi := ⟨some 13, _, _, _, _, _⟩) (v := ?_) rfl (by kernel_rfl) (by kernel_rfl) (by kernel_rfl) (fun _ _ _ h => h) (Or.inl ⟨by rfl, ?_⟩) ?_
        rotate_left
        · intro w; go_simp <;> with_reducible rfl
        simp only [Act.put, List.setIfInBounds_toArray, List.set_cons_zero, List.set_cons_succ]
        refine wpAny_take (i := 1) (oi := ⟨some 14, _, _, _, _, _⟩) (v := ?_) rfl (by kernel_rfl) (by kernel_rfl) (by kernel_rfl) (fun _ _ _ h => h) (Or.inl ⟨by rfl, ?_⟩) ?_
        rotate_left
        · intro w; go_simp <;> with_reducible rfl
        simp only [Act.put, List.setIfInBounds_toArray, List.set_cons_zero, List.set_cons_succ]
        refine wpAny_take (i := 2) (oi := ⟨some 15, _, _, _, _, _⟩) (v := ?_) rfl (by kernel_rfl) (by kernel_rfl) (by kernel_rfl) (fun _ _ _ h => h) (Or.inl ⟨by rfl, ?_⟩) ?_
        rotate_left
        · intro w; go_simp <;> with_reducible rfl
        simp only [Act.put, List.setIfInBounds_toArray, List.set_cons_zero, List.set_cons_succ]
        refine wpAny_take (i := 3) (oi := ⟨some 16, _, _, _, _, _⟩) (v := ?_) rfl (by kernel_rfl) (by kernel_rfl) (by kernel_rfl) (fun _ _ _ h => h) (Or.inl ⟨by rfl, ?_⟩) ?_
        rotate_left
        · intro w; go_simp <;> with_reducible rfl
        simp only [Act.put, List.setIfInBounds_toArray, List.set_cons_zero, List.set_cons_succ]
        refine wpAny_take (i := 4) (oi := ⟨some 17, _, _, _, _, _⟩) (v := ?_) rfl (by kernel_rfl) (by kernel_rfl) (by kernel_rfl) (fun _ _ _ h => h) (Or.inl ⟨by rfl, ?_⟩) ?_
        rotate_left
        · intro w; go_simp <;> with_reducible rfl
        simp only [Act.put, List.setIfInBounds_toArray, List.set_cons_zero, List.set_cons_succ]
        try simp only [hq1]
        try simp only [hr1]
        try simp only [hq2]
        try simp only [hr2]
        try simp only [hwq]
        try simp only [hwr]
        refine wpAny_take (i := 5) (oi := ⟨some 18, _, _, _, _, _⟩) (v := ?_) rfl (by kernel_rfl) (by kernel_rfl) (by kernel_rfl) (fun _ _ _ h => h) (Or.inl ⟨by rfl, ?_⟩) ?_
        rotate_left
        · intro w; go_simp <;> with_reducible rfl
        simp only [Act.put, List.setIfInBounds_toArray, List.set_cons_zero, List.set_cons_succ]
        refine wpAny_take (i := 6) (oi := ⟨some 19, _, _, _, _, _⟩) (v := ?_) rfl (by kernel_rfl) (by kernel_rfl) (by kernel_rfl) (fun _ _ _ h => h) (Or.inl ⟨by rfl, ?_⟩) ?_
        rotate_left
        · intro w; go_simp <;> with_reducible rfl
        simp only [Act.put, List.setIfInBounds_toArray, List.set_cons_zero, List.set_cons_succ]
        refine wpAny_take (i := 7) (oi := ⟨some 20, _, _, _, _, _⟩) (v := ?_) rfl (by kernel_rfl) (by kernel_rfl) (by kernel_rfl) (fun _ _ _ h => h) (Or.inl ⟨by rfl, ?_⟩) ?_
        rotate_left
        · intro w; go_simp <;> with_reducible rfl
        simp only [Act.put, List.setIfInBounds_toArray, List.set_cons_zero, List.set_cons_succ]
        refine wpAny_take (i := 8) (oi := ⟨some 21, _, _, _, _, _⟩) (v := ?_) rfl (by kernel_rfl) (by kernel_rfl) (by kernel_rfl) (fun _ _ _ h => h) (Or.inl ⟨by rfl, ?_⟩) ?_
        rotate_left
        · intro w; go_simp <;> with_reducible rfl
        simp only [Act.put, List.setIfInBounds_toArray, List.set_cons_zero, List.set_cons_succ]
        refine wpAny_take (i := 9) (oi := ⟨some 22, _, _, _, _, _⟩) (v := ?_) rfl (by kernel_rfl) (by kernel_rfl) (by kernel_rfl) (fun _ _ _ h => h) (Or.inl ⟨by rfl, ?_⟩) ?_
        rotate_left
        · intro w; go_simp <;> with_reducible rfl
        simp only [Act.put, List.setIfInBounds_toArray, List.set_cons_zero, List.set_cons_succ]
        try simp only [hq1]
        try simp only [hr1]
        try simp only [hq2]
        try simp only [hr2]
        try simp only [hwq]
        try simp only [hwr]
        refine wpAny_take (i := 10) (oi := ⟨some 23, _, _, _, _, _⟩) (v := ?_) rfl (by kernel_rfl) (by kernel_rfl) (by kernel_rfl) (fun _ _ _ h => h) (Or.inl ⟨by rfl, ?_⟩) ?_
        rotate_left
        · intro w; go_simp <;> with_reducible rfl
        simp only [Act.put, List.setIfInBounds_toArray, List.set_cons_zero, List.set_cons_succ]
        refine wpAny_ready (rs := [11]) (by kernel_rfl) (by simp) ?_
        refine AllReady.cons rfl (fun K hK => ?_) AllReady.nil
        go_simp
        first | refine hK _ _ ?_ | refine ⟨trivial, hK _ _ ?_⟩ | refine ⟨fun _ _ => trivial, hK _ _ ?_⟩
        clear hK K
        refine wpAny_ready (rs := [12]) (by kernel_rfl) (by simp) ?_
        refine BigFrame.allReady_want rfl (by rfl) (fun K hK => ?_) AllReady.nil
        refine wp_append_sl _ _ 41 rfl w.heap.size 5 i0 (.int .u8 0) 1 1 Tryd.underlying41 hi hz0 hz1 hz2 rfl (by decide) _ _ _ rfl oA encB _ [((⟨#[48, 49, 50, 51, 52, 53, 54, 55, 56, 57, 97, 98, 99, 100, 101, 102]⟩ : ByteArray)[q]'hq3), ((⟨#[48, 49, 50, 51, 52, 53, 54, 55, 56, 57, 97, 98, 99, 100, 101, 102]⟩ : ByteArray)[r]'hr3)] rfl slA (fun x _ => ⟨rfl, fun u hu => by obtain rfl := List.mem_singleton.1 hu; rfl⟩) (by unfold maxLen; simp only [List.length_cons, List.length_nil]; omega) (by simp only [List.length_cons, List.length_nil]; omega) hbs (fun v9 V9 own9 grow9 _ => hK _ _ ?_)
        clear hK K
        refine wpAny_take (i := 13) (oi := ⟨some 3, _, _, _, _, _⟩) (v := ?_) rfl (by kernel_rfl) (by kernel_rfl) (by kernel_rfl) (fun _ _ _ h => h) (Or.inl ⟨by rfl, ?_⟩) ?_
        rotate_left
        · intro w; go_simp <;> with_reducible rfl
        simp only [Act.put, List.setIfInBounds_toArray, List.set_cons_zero, List.set_cons_succ]
        refine wpAny_done (by kernel_rfl) ?_ _
        go_wp2_with (fail)
        have hB9 := hBA.grown grow9 hBA.size (fun _ e => own_baseS oA e)
        rw [← List.length_append, ← List.flatMap_append, hq4.out, hr4.out] at own9
        refine ⟨⟨k + 1, by omega, by go_num, ⟨_, rfl, by rw [hnx.out]; exact own9⟩, hB9⟩, by simp [RowKit.intOf]; omega⟩
      · have hke : k = s.size := by omega
        have hN : (s.data.toList.take k).flatMap hx = s.data.toList.flatMap hx := by rw [hke, ← hz, List.take_length]
        rw [hN] at o0
        have hB0 : s.data.toList.flatMap hx ≠ [] := by
          intro e
          have h9 := h0.out
          cases e2 : s.data.toList with
          | nil => exact h9 e2
          | cons a b => rw [e2] at e; simp [hx] at e
        obtain ⟨B, hBq⟩ : ∃ B, s.data.toList.flatMap hx = B := ⟨_, rfl⟩
        rw [hBq] at o0 hB0
        replace hBq := hid hBq
        obtain ⟨bb, bo, cap, he2, -, hcap, hcs⟩ := (sl_of_owns (enc := encB) (fun _ _ => rfl) o0).open hB0
        subst he2
        have hcv : (convert 41 9 (.slice (some ⟨bb, bo, none⟩) B.length cap)).run Tryd.prog wr = .ok (.string ⟨B.toArray⟩) wr := run_convert_bytes_back (P := Tryd.prog) wr 41 9 5 ⟨bb, bo, none⟩ cap B Tryd.underlying41 Tryd.underlying5 Tryd.underlying9 (fun j hj => by
          have := rangeAt_one (hcs j B[j] (List.getElem?_eq_getElem hj))
          rw [Nat.mul_one] at this
          rw [Lib.add_plain]; exact this)
        have hkn : ¬ (k : Int) < (s.size : Int) := by omega
        replace hke := hid hke
        replace hN := hid hN
        clear hcs o0
        go_wp2_with (fail)
        go_ret
        exact ⟨by rw [hBq.out]; rfl, hB⟩
end Go.Proofs.YtkmnmigpnbehaaaDoor
