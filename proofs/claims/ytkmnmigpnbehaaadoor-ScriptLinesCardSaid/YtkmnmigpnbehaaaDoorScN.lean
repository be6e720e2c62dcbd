/- The walks of strings.Builder's copyCheck, WriteByte and of script's hex: the builder's buffers lie above B, the builder itself below. -/
import Derived.Test.YtkmnmigpnbehaaaDoorScM
import Derived.Test.YtkmnmigpnbehaaaDoorScK
import Derived.Lib.RuneBytes
import Derived.Lib.ConvBytes
namespace Go.Proofs.YtkmnmigpnbehaaaDoor
open Go.RowKit Go.Shelf

set_option maxRecDepth 100000 in
set_option maxHeartbeats 1000000 in
theorem copyCheck_used (b : Nat) (w : World) (h0 : w.cell? ⟨b, 0, none⟩ = some (.pointer (some ⟨b, 0, none⟩))) :
    Calls Tryd.prog 35 #[.pointer (some ⟨b, 0, none⟩)] w fun e w' => e = .returned (.tuple #[]) ∧ w' = w := by
  obtain ⟨j, hj, _⟩ := Option.map_eq_some_iff.1 Tryd.Builder_Extra_169.sizeBuilder
  go_enter Tryd.func35, Tryd.ntmps35
  go_wp2
  rw [Lib.run_neq_ptr_same w _ Tryd.underlying69 hj]
  go_wp2
  go_end0
  exact ⟨rfl, rfl⟩

set_option maxRecDepth 100000 in
set_option maxHeartbeats 1000000 in
theorem copyCheck_fresh (b : Nat) (w : World) (h0 : w.cell? ⟨b, 0, none⟩ = some (.pointer none)) (hsh : w.shape? b = some (71, 2)) (hfz : w.frozen? ⟨b, 0, none⟩ = false) :
    Calls Tryd.prog 35 #[.pointer (some ⟨b, 0, none⟩)] w fun e w' => e = .returned (.tuple #[]) ∧ w' = w.setCell ⟨b, 0, none⟩ (.pointer (some ⟨b, 0, none⟩)) := by
  obtain ⟨j, hj, hjs⟩ := Option.map_eq_some_iff.1 Tryd.Builder_Extra_169.sizeBuilder
  have hun : Tryd.prog.underlying 93 = some .unsafePointer := by kernel_rfl
  go_enter Tryd.func35, Tryd.ntmps35
  go_wp2
  rw [Lib.run_to_unsafe w ⟨b, 0, none⟩ Tryd.underlying69 hun hj (by rw [hjs]; decide) hsh (Nat.zero_lt_succ 1)]
  simp only [Result.andThen]
  rw [Oper.upon_value]
  go_wp2
  rw [run_callFunc_extern Tryd.func42 (by kernel_rfl) (by kernel_rfl) (by kernel_rfl) (e := Extern.AbiNoEscape.same) (by kernel_rfl)]
  rw [Lib.run_noEscape]
  simp only [Result.andThen]
  rw [Oper.upon_value]
  go_wp2
  rw [Lib.run_from_unsafe w ⟨b, 0, none⟩ hun Tryd.underlying69 hj hsh Tryd.Builder_Extra_169.liesBuilder]
  simp only [Result.andThen]
  rw [Oper.upon_value]
  go_wp2
  go_end0
  exact ⟨rfl, rfl⟩

/-- a builder at b, its buffer at B or above -/
def Bld (B b : Nat) (bs : List Value) (w : World) : Prop :=
  ∃ p v, (p = .pointer none ∨ p = .pointer (some ⟨b, 0, none⟩)) ∧ w.heap[b]? = some (.cells #[p, v] 71 (0, 0)) ∧ w.ownsRowF B 5 1 v bs.length bs ∧ b < B
/-- what lies below B stands, but the builder -/
structure OffB (b B : Nat) (w w' : World) : Prop where
  os : w'.os = w.os
  tape : w'.tape = w.tape
  output : w'.output = w.output
  size : w.heap.size ≤ w'.heap.size
  same : ∀ k, k < B → k ≠ b → w'.heap[k]? = w.heap[k]?
theorem OffB.refl (b B : Nat) (w : World) : OffB b B w w := ⟨rfl, rfl, rfl, Nat.le_refl _, fun _ _ _ => rfl⟩
theorem OffB.trans {b B : Nat} {x y z : World} (h : OffB b B x y) (k : OffB b B y z) : OffB b B x z :=
  ⟨k.os.trans h.os, k.tape.trans h.tape, k.output.trans h.output, Nat.le_trans h.size k.size, fun i h1 h2 => (k.same i h1 h2).trans (h.same i h1 h2)⟩
theorem OffB.below {b B n : Nat} {w0 w w' : World} (h : OffB b B w w') (hn : n ≤ b) (hB : b < B) (h0 : Below n w0 w) : Below n w0 w' :=
  ⟨h.os.trans h0.os, h.tape.trans h0.tape, h.output.trans h0.output, Nat.le_trans h0.size h.size, fun k hk => (h.same k (by omega) (by omega)).trans (h0.block k hk)⟩

theorem bld_is {B b : Nat} {bs : List Value} {w : World} (h : Bld B b bs w) (hb : b ≤ B) : Lib.IsBuilderF 71 5 b b bs w := by
  obtain ⟨p, v, hp, h1, h2, h3⟩ := h
  have hne := Lib.ownBlock_neF h2 h1 Tryd.Builder_Extra_169.neB5
  have h4 : w.ownsRowF b 5 1 v bs.length bs := by
    obtain ⟨e1, e2⟩ := h2
    refine ⟨e1, ?_⟩
    rcases e2 with e2 | ⟨g, cap, cur, fz, hv, hg, r⟩
    · exact .inl e2
    · exact .inr ⟨g, cap, cur, fz, hv, by omega, r⟩
  rcases hp with rfl | rfl
  · exact .inl ⟨Nat.le_refl _, v, h1, h4, hne⟩
  · exact .inr ⟨Nat.le_refl _, v, h1, h4, hne⟩

theorem copyCheck_bld (B b : Nat) (bs : List Value) (w : World) (h : Bld B b bs w) :
    Calls Tryd.prog 35 #[.pointer (some ⟨b, 0, none⟩)] w fun e w' => e = .returned (.tuple #[]) ∧ (∃ v, w'.heap[b]? = some (.cells #[.pointer (some ⟨b, 0, none⟩), v] 71 (0, 0)) ∧ w'.ownsRowF B 5 1 v bs.length bs) ∧ OffB b B w w' := by
  obtain ⟨p, v, hp, hb, ho, hl⟩ := h
  have hne := Lib.ownBlock_neF ho hb Tryd.Builder_Extra_169.neB5
  rcases hp with rfl | rfl
  · refine (copyCheck_fresh b w (by simp [World.cell?, hb]) (by simp [World.shape?, hb]) (by simp [World.frozen?, hb])).mono ?_
    rintro e w' ⟨rfl, rfl⟩
    refine ⟨rfl, ⟨v, setCell_blk hb, ?_⟩, rfl, rfl, rfl, by simp [World.setCell], fun k _ hk => setCell_off hk⟩
    exact ho.kept (row := some b) ⟨rfl, rfl, rfl, by simp [World.setCell], fun k _ hk => Below.heap_setCell _ _ _ _ (fun e => hk (by simp [e]))⟩ (Or.inr hne)
  · refine (copyCheck_used b w (by simp [World.cell?, hb])).mono ?_
    rintro e w' ⟨rfl, rfl⟩
    exact ⟨rfl, ⟨v, hb, ho⟩, OffB.refl _ _ _⟩

set_option maxRecDepth 100000 in
set_option maxHeartbeats 2000000 in
theorem WriteByte_bld (B b : Nat) (bs : List Value) (c : Int) (w : World) (h : Bld B b bs w) (hlen : bs.length + 1 ≤ 140737488355328) (hBw : B ≤ w.heap.size) :
    Calls Tryd.prog 26 #[.pointer (some ⟨b, 0, none⟩), .int .u8 c] w fun e w' => e = .returned .nilIface ∧ Bld B b (bs ++ [.int .u8 c]) w' ∧ OffB b B w w' := by
  obtain ⟨i0, hi, hz0, hz1, hz2⟩ := info_parts Tryd.Builder_Extra_169.infoByte
  have hbB : b < B := by obtain ⟨_, _, _, _, _, h⟩ := h; exact h
  have hcc := copyCheck_bld B b bs w h
  go_enter Tryd.func26, Tryd.ntmps26
  go_wp2_with (fail)
  refine hcc.mono ?_
  rintro e w1 ⟨rfl, ⟨v, hbk, hown⟩, hb1⟩
  have hne := Lib.ownBlock_neF hown hbk Tryd.Builder_Extra_169.neB5
  have c0 : w1.cell? ⟨b, 0, none⟩ = some (.pointer (some ⟨b, 0, none⟩)) := by rw [Lib.cell_of_heap hbk]; rfl
  have c1 : w1.cell? ⟨b, 1, none⟩ = some v := by rw [Lib.cell_of_heap hbk]; rfl
  go_wp2_with (at_builtin; refine wpList_append_ownF _ rfl _ _ 41 rfl B 5 i0 (.int .u8 0) 1 1 Tryd.underlying41 hi hz0 hz1 hz2 rfl (by decide) _ _ _ rfl (hown.alloc _) ⟨w1.heap.size, 0, none⟩ 1 1 [.int .u8 c] rfl rfl ?c1 ?c2 ?c3 ?c4 ?c5 ?_)
  case c1 =>
    intro j u hj
    match j, hj with
    | 0, hj => simp at hj; subst hj; simp [Addr.add]
  case c2 => intro u hu; simp at hu; subst hu; rfl
  case c3 => unfold maxLen; omega
  case c4 => omega
  case c5 => have := hb1.size; simp; omega
  intro v' w2 hown' hgrow _
  have hlt : b < w1.heap.size := by
    rcases Nat.lt_or_ge b w1.heap.size with h' | h'
    · exact h'
    · simp [Array.getElem?_eq_none h'] at hbk
  have hb2 : w2.heap[b]? = some (.cells #[.pointer (some ⟨b, 0, none⟩), v] 71 (0, 0)) := by
    rw [hgrow.block b (by simp; omega) (fun e => hne e.symm), Lib.alloc_old w1 _ b hlt]
    exact hbk
  have d0 : w2.cell? ⟨b, 0, none⟩ = some (.pointer (some ⟨b, 0, none⟩)) := by rw [Lib.cell_of_heap hb2]; rfl
  have d1 : w2.cell? ⟨b, 1, none⟩ = some v := by rw [Lib.cell_of_heap hb2]; rfl
  have f1 : w2.frozen? ⟨b, 1, none⟩ = false := Lib.frozen_of_heap hb2 1
  obtain ⟨ao, n', cap, rfl⟩ : ∃ ao n' cap, v' = .slice ao n' cap := by
    rcases hown'.2 with ⟨hv, _⟩ | ⟨g, cap, cur, fz, hv, _⟩
    · exact ⟨_, _, _, hv⟩
    · exact ⟨_, _, _, hv⟩
  go_wp2
  go_ret
  have hne' := Lib.ownBlock_neF hown' hb2 Tryd.Builder_Extra_169.neB5
  refine ⟨rfl, ⟨_, _, .inr rfl, setCell_blk hb2, ?_, hbB⟩, hb1.trans ⟨hgrow.os, hgrow.tape, hgrow.output, by have := hgrow.size; simp [World.setCell] at this ⊢; omega, fun k hk hkb => ?_⟩⟩
  · have hown2 : w2.ownsRowF B 5 1 (.slice ao n' cap) (bs.length + 1) (bs ++ [.int .u8 c]) := by simpa using hown'
    have h2 := hown2.kept (w' := w2.setCell ⟨b, 1, none⟩ (.slice ao n' cap)) (row := some b) ⟨rfl, rfl, rfl, by simp [World.setCell], fun k _ hk => Below.heap_setCell _ _ _ _ (fun e => hk (by simp [e]))⟩ (Or.inr hne')
    simpa using h2
  · have hk1 : k < w1.heap.size := by have := hb1.size; omega
    refine (setCell_off hkb).trans ((hgrow.block k (by simp; omega) fun e => ?_).trans (Lib.alloc_old w1 _ k hk1))
    have := (hown.lt k e.symm).1
    omega

theorem hx_len (l : L8) : (l.flatMap hx).length = 2 * l.length := by
  induction l with
  | nil => rfl
  | cons a b ih => rw [List.flatMap_cons, List.length_append, ih]; simp [hx]; omega
theorem byteCells_app (a b : L8) : Lib.byteCells (a ++ b) = Lib.byteCells a ++ Lib.byteCells b := by simp [Lib.byteCells]

set_option maxRecDepth 100000 in
set_option maxHeartbeats 1000000 in
theorem hex_any (s : ByteArray) (w : World) (hs : s.size ≤ 1000000) :
    Calls Tryd.prog 20 #[.string s] w fun e w' => e = .returned (.string ⟨(hexS s.data.toList).toArray⟩) ∧ Below w.heap.size w w' := by
  have hl : s.toList = s.data.toList := Lib.toList_data s
  have hz : s.data.toList.length = s.size := Lib.size_eq s |>.symm
  have hX : hexS s.data.toList = if s.data.toList = [] then [45] else s.data.toList.flatMap hx := rfl
  by_cases h0 : s.data.toList = []
  · have he : s.toList.isEmpty = true := by rw [hl, h0]; rfl
    rw [if_pos h0] at hX
    rw [hX]
    replace hX := hid hX
    replace h0 := hid h0
    clear hl hz
    go_enter Tryd.func20, Tryd.ntmps20
    go_wp2_with (fail)
    go_ret
    exact ⟨rfl, Below.refl _ _⟩
  · have he : s.toList.isEmpty = false := by
      rw [hl]
      cases e : s.data.toList with
      | nil => exact absurd e h0
      | cons a b => rfl
    rw [if_neg h0] at hX
    rw [hX]
    obtain ⟨FX, hFX⟩ : ∃ F, s.data.toList.flatMap hx = F := ⟨_, rfl⟩
    rw [hFX]
    replace hFX := hid hFX
    replace hX := hid hX
    replace h0 := hid h0
    replace hl := hid hl
    obtain ⟨n₀, hn₀⟩ : ∃ n, w.heap.size = n := ⟨_, rfl⟩
    have a0 := World.alloc_heap_new w (.cells #[.pointer none, .slice none 0 0] 71)
    have hB0 : Below w.heap.size w (w.alloc (.cells #[.pointer none, .slice none 0 0] 71)) := (Below.refl _ w).alloc (Nat.le_refl _) _
    have hz0 : (w.alloc (.cells #[.pointer none, .slice none 0 0] 71)).heap.size = n₀ + 1 := by simp [hn₀]
    rw [hn₀] at a0 hB0 ⊢
    obtain ⟨V0, hV0⟩ : ∃ V, w.alloc (.cells #[.pointer none, .slice none 0 0] 71) = V := ⟨_, rfl⟩
    rw [hV0] at a0 hB0 hz0
    have hcv := Lib.run_convert_string_bytes (P := Tryd.prog) V0 9 41 5 s (u := .string) Tryd.underlying9 Tryd.underlying41 Tryd.underlying5
    have hc0 : ∀ j, j < s.size → (Lib.bytesWorld V0 5 s).cell? ⟨n₀ + 1, j, none⟩ = some (.int .u8 (s.data.toList.getD j 0).toNat) := fun j hj => hz0 ▸ Lib.bytesWorld_cell V0 5 s j hj
    have a1 := (Lib.bytesWorld_at_old V0 5 s n₀ (by omega)).trans a0
    have hz1 := Lib.bytesWorld_size V0 5 s
    have hB1 : Below n₀ w (Lib.bytesWorld V0 5 s) := hB0.trans ((below_bytes V0 5 s).mono (by omega))
    rw [hz0] at hcv hz1
    generalize Lib.bytesWorld V0 5 s = W1 at *
    generalize grownCap V0 s.size 0 5 = cp at *
    replace hV0 := hid hV0
    go_enter Tryd.func20, Tryd.ntmps20
    go_wp2_with (fail)
    rw [hV0.out, hcv]
    go_wp2_with (fail)
    go_loopw [11] (fun i wr => ∃ k : Nat, k ≤ s.size ∧ i = .int .i64 k ∧ Bld (n₀ + 2) n₀ (Lib.byteCells ((s.data.toList.take k).flatMap hx)) wr ∧ (∀ j, j < s.size → wr.cell? ⟨n₀ + 1, j, none⟩ = some (.int .u8 (s.data.toList.getD j 0).toNat)) ∧ Below n₀ w wr ∧ n₀ + 2 ≤ wr.heap.size) (fun i _ => s.size - (RowKit.intOf i).toNat)
    case atStart =>
      exact ⟨0, Nat.zero_le _, rfl, ⟨_, _, .inl rfl, a1, World.ownsRowF_nil _ _ _ _, by omega⟩, hc0, hB1, by omega⟩
    case round =>
      obtain ⟨k, hk, rfl, hbl, hcs, hB, hzw⟩ := hrel
      by_cases hkl : k < s.size
      · have hkI : (k : Int) < (s.size : Int) := by omega
        have hll : k < s.data.toList.length := by rw [hz]; exact hkl
        have hck := hcs k hkl
        have hgd : s.data.toList.getD k 0 = s[k] := by rw [List.getD_eq_getElem?_getD, List.getElem?_eq_getElem hll]; rfl
        rw [hgd] at hck
        have htk : s.data.toList.take (k + 1) = s.data.toList.take k ++ [s[k]] := by rw [List.take_succ_eq_append_getElem hll]; rfl
        clear hgd
        obtain ⟨c, hc⟩ : ∃ c, s[k] = c := ⟨_, rfl⟩
        rw [hc] at htk hck
        have hcl := c.toNat_lt
        obtain ⟨q, hq⟩ : ∃ q, c.toNat / 16 = q := ⟨_, rfl⟩
        obtain ⟨r, hr⟩ : ∃ q, c.toNat % 16 = q := ⟨_, rfl⟩
        have hq1 : (c.toNat : Int).tdiv 16 = (q : Int) := by rw [← hq]; rfl
        have hr1 : (c.toNat : Int).tmod 16 = (r : Int) := by rw [← hr]; rfl
        have hq2 : (c.toNat : Int) / 16 = (q : Int) := by rw [← hq]; rfl
        have hr2 : (c.toNat : Int) % 16 = (r : Int) := by rw [← hr]; rfl
        have hqI : (q : Int) < 16 := by omega
        have hrI : (r : Int) < 16 := by omega
        have hwq : IntKind.u8.wrap (q : Int) = (q : Int) := by rw [IntKind.wrap_u8]; omega
        have hwr : IntKind.u8.wrap (r : Int) = (r : Int) := by rw [IntKind.wrap_u8]; omega
        replace hq := hid hq
        replace hr := hid hr
        replace htk := hid htk
        obtain ⟨hq3, hq4⟩ := digB_at (k := q) (by omega)
        obtain ⟨hr3, hr4⟩ := digB_at (k := r) (by omega)
        unfold digB at hq3 hr3 hq4 hr4
        replace hq4 := hid hq4
        replace hr4 := hid hr4
        have hlenk : ((s.data.toList.take k).flatMap hx).length ≤ 2000000 := by
          rw [hx_len, List.length_take, hz]; omega
        have hnx : (s.data.toList.take (k + 1)).flatMap hx = (s.data.toList.take k).flatMap hx ++ [dig q] ++ [dig r] := by
          rw [htk.out, List.flatMap_append]
          simp only [List.flatMap_cons, List.flatMap_nil, List.append_nil, hx, hq.out, hr.out]
          simp
        obtain ⟨F, hF⟩ : ∃ F, (s.data.toList.take k).flatMap hx = F := ⟨_, rfl⟩
        rw [hF] at hbl hlenk hnx
        replace hF := hid hF
        replace hnx := hid hnx
        replace hcs := hid hcs
        have cW := hid (WriteByte_bld (n₀ + 2) n₀ (Lib.byteCells F) (((⟨#[48, 49, 50, 51, 52, 53, 54, 55, 56, 57, 97, 98, 99, 100, 101, 102]⟩ : ByteArray)[q]'hq3).toNat) wr hbl (by rw [Lib.byteCells_length]; omega) hzw)
        go_wp2_with (fail)
        refine cW.out.mono ?_
        rintro e w2 ⟨rfl, hbl2, ho2⟩
        have hc2 : ∀ j, j < s.size → w2.cell? ⟨n₀ + 1, j, none⟩ = some (.int .u8 (s.data.toList.getD j 0).toNat) := fun j hj => by
          have := hcs.out j hj
          unfold World.cell? at this ⊢
          rw [show (w2.heap[(⟨n₀ + 1, j, none⟩ : Addr).block]?) = wr.heap[(⟨n₀ + 1, j, none⟩ : Addr).block]? from ho2.same (n₀ + 1) (by omega) (by omega)]; exact this
        replace hc2 := hid hc2
        have hB2 := ho2.below (Nat.le_refl _) (by omega) hB
        have hz2 := Nat.le_trans hzw ho2.size
        have cW2 := hid (WriteByte_bld (n₀ + 2) n₀ (Lib.byteCells F ++ [.int .u8 ((⟨#[48, 49, 50, 51, 52, 53, 54, 55, 56, 57, 97, 98, 99, 100, 101, 102]⟩ : ByteArray)[q]'hq3).toNat]) (((⟨#[48, 49, 50, 51, 52, 53, 54, 55, 56, 57, 97, 98, 99, 100, 101, 102]⟩ : ByteArray)[r]'hr3).toNat) w2 hbl2 (by rw [List.length_append, Lib.byteCells_length, List.length_singleton]; omega) hz2)
        clear cW hcs hbl hck
        go_wp2_with (fail)
        refine cW2.out.mono ?_
        rintro e w3 ⟨rfl, hbl3, ho3⟩
        have hc3 : ∀ j, j < s.size → w3.cell? ⟨n₀ + 1, j, none⟩ = some (.int .u8 (s.data.toList.getD j 0).toNat) := fun j hj => by
          have := hc2.out j hj
          unfold World.cell? at this ⊢
          rw [show (w3.heap[(⟨n₀ + 1, j, none⟩ : Addr).block]?) = w2.heap[(⟨n₀ + 1, j, none⟩ : Addr).block]? from ho3.same (n₀ + 1) (by omega) (by omega)]; exact this
        replace hc3 := hid hc3
        have hB3 := ho3.below (Nat.le_refl _) (by omega) hB2
        have hz3 := Nat.le_trans hz2 ho3.size
        clear cW2 hc2 hbl2
        go_wp2_with (fail)
        refine ⟨⟨k + 1, by omega, by go_num, ?_, hc3.out, hB3, hz3⟩, by simp [RowKit.intOf]; omega⟩
        rw [hnx.out, byteCells_app, byteCells_app]
        rw [hq4.out, hr4.out] at hbl3
        exact hbl3
      · obtain rfl : k = s.size := by omega
        rw [← hz, List.take_length, hFX.out] at hbl
        have cS := hid (Tryd.Builder_String_any_f n₀ n₀ FX wr (bld_is hbl (by omega)) (by omega))
        go_wp2_with (fail)
        refine cS.out.mono ?_
        rintro e w2 ⟨rfl, -, hb2⟩
        go_wp2_with (fail)
        go_ret
        exact ⟨rfl, hB.trans hb2⟩
end Go.Proofs.YtkmnmigpnbehaaaDoor
