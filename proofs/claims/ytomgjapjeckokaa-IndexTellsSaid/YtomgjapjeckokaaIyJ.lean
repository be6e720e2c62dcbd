/- The walk of leaf.Decode (printed by gen_iyj.py). -/
import Derived.Test.YtomgjapjeckokaaIyI
import Derived.Test.YtomgjapjeckokaaIyE
import Derived.Deep.DeepCutAuto
namespace Go.Proofs.Ytomgjapjeckokaa
open Go.RowKit Go.Shelf Go.Lib

theorem wpList_load_mid_w {P : Program} {ops : Array Oper} {rest : List Oper} {op : Oper} {a : Act} {w : World} {Q : Exit → Act → World → Prop} (hgd : Region.wanted op (yielded ops a.tmps) = true) (ty : TypeId) (x : Operand) (ho : op.op = .load ty x)
    (b o : Nat) (hx : a.eval x = .pointer (some ⟨b, o, none⟩)) (cs : List Value) (d : TypeDesc) (hc : w.rangeAt b o cs)
    (hu : P.underlying ty = some d) (hd : d.isRow = true) (hi : (P.info? ty).map (·.size) = some cs.length)
    (h : wpList P ops Q rest (a.put op.dst (.agg cs.toArray)) w) : wpList P ops Q (op :: rest) a w :=
  BigFrame.wpList_want hgd fun _ hK => wp_load_mid ty x ho b o hx cs d hc hu hd hi (hK _ _ h)
def intsU (l : List UInt8) : List Int := l.map fun b => (b.toNat : Int)
theorem rowU_u8s (l : List UInt8) : rowU l = (u8s (intsU l)).toArray := by unfold rowU u8s intsU; rw [List.map_map]; rfl
theorem intsU_inj {a b : List UInt8} (h : intsU a = intsU b) : a = b := by
  unfold intsU at h
  exact List.map_inj_right (fun x y hxy => UInt8.toNat_inj.1 (Int.ofNat.inj hxy)) |>.1 h
/-- the entries of a leaf's bytes -/
def leafL (bl : List UInt8) : List Ent := entsU ((bl.drop 2).take (36 * (bl.getD 1 0).toNat)) (bl.getD 1 0).toNat
def decS (bl : List UInt8) : Option (List Ent) := if (bl.getD 1 0).toNat ≤ 3 ∧ goodL (leafL bl) = true ∧ sealB (encB (leafL bl)) = bl then some (leafL bl) else none
def AnsD (w' : World) (base : Nat) (r : Option (List Ent)) (v : Value) (er : Int) : Prop := match r with
  | none => v = .slice none 0 0 ∧ er = 11
  | some l => w'.ownsRow base 48 35 v l.length (l.flatMap encE) ∧ v ≠ .slice none 0 0 ∧ er = 0
theorem entAt_key {bl : List UInt8} {n j : Nat} (h : bl.length = 36 * n) (hj : j < n) : (entAt bl j).key.length = 32 := by
  unfold entAt decE
  simp
  omega
theorem entsU_keys {bl : List UInt8} {n : Nat} (h : bl.length = 36 * n) : ∀ e ∈ entsU bl n, e.key.length = 32 := fun e he => by
  unfold entsU at he
  obtain ⟨j, hj, rfl⟩ := List.mem_map.1 he
  exact entAt_key h (List.mem_range.1 hj)
theorem entsU_len (bl : List UInt8) (n : Nat) : (entsU bl n).length = n := by unfold entsU; simp
theorem leafL_keys {bl : List UInt8} (h : bl.length = 128) (hn : (bl.getD 1 0).toNat ≤ 3) : ∀ e ∈ leafL bl, e.key.length = 32 := entsU_keys (by simp only [List.length_take, List.length_drop, h]; omega)
theorem sl_part {W : World} {b m : Nat} {bl : List UInt8} {t : TypeId} {fr : Nat × Nat} (h : W.heap[b]? = some (.cells (rowU bl) t fr)) (hbl : bl.length = 128) (hm : 2 + m ≤ 128) : Sl W 1 encU (.slice (some ⟨b, 2, none⟩) m 126) ((bl.drop 2).take m) := by
  have hl : ((bl.drop 2).take m).length = m := by simp; omega
  have := Sl.mk (w := W) (k := 1) (enc := encU) (l := (bl.drop 2).take m) (b := b) (o := 2) (cap := 126) (by rw [hl]; omega) (by decide) fun i x hx => ?_
  · rwa [hl] at this
  · intro j v hj
    match j, hj with
    | 0, hj =>
      obtain rfl := Option.some.inj hj
      refine cell_blk h ?_
      have hil := (List.getElem?_eq_some_iff.1 hx).1
      rw [hl] at hil
      rw [List.getElem?_take_of_lt hil, List.getElem?_drop] at hx
      unfold rowU
      rw [List.getElem?_toArray, List.getElem?_map, show 2 + i * 1 + 0 = 2 + i by omega, hx]; rfl

set_option maxRecDepth 100000 in
set_option maxHeartbeats 2000000 in
theorem Decode_any (bl : List UInt8) (w : World) (hbl : bl.length = 128) :
    Calls Try.prog 32 #[.agg (rowU bl)] w fun e w' => ∃ v er, e = .returned (.tuple #[v, .int .i64 er]) ∧ Below w.heap.size w w' ∧ AnsD w' w.heap.size (decS bl) v er := by
  obtain ⟨n₀, hn₀⟩ : ∃ n, w.heap.size = n := ⟨_, rfl⟩
  have g1 := World.alloc_heap_new w (.cells (rowU bl) 43)
  rw [hn₀] at g1
  have B1 : Below n₀ w (w.alloc (.cells (rowU bl) 43)) := by rw [← hn₀]; exact (Below.refl _ w).alloc (Nat.le_refl _) _
  obtain ⟨W1, hW1⟩ : ∃ W : World, W = w.alloc (.cells (rowU bl) 43) := ⟨_, rfl⟩
  rw [← hW1] at g1 B1
  obtain ⟨nn, hnn⟩ : ∃ n, (bl.getD 1 0).toNat = n := ⟨_, rfl⟩
  have d1 : W1.cell? ⟨n₀, 1, none⟩ = some (.int .u8 (nn : Int)) := by
    refine cell_blk g1 ?_
    unfold rowU
    rw [List.getElem?_toArray, List.getElem?_map, List.getElem?_eq_getElem (by omega : 1 < bl.length), ← hnn, List.getD_eq_getElem?_getD, List.getElem?_eq_getElem (by omega : 1 < bl.length)]; rfl
  have hnb : nn < 256 := by rw [← hnn]; exact (bl.getD 1 0).toNat_lt
  have hnw : IntKind.i64.wrap (nn : Int) = (nn : Int) := by rw [IntKind.wrap_i64]; omega
  rw [hn₀]
  by_cases hbig : 3 < nn
  · have hres : decS bl = none := by unfold decS; rw [if_neg (by rw [hnn]; omega)]
    rw [hres]
    have hbI : (3 : Int) < (nn : Int) := by omega
    clear g1
    go_enter Try.func32, Try.ntmps32
    go_upto_region 1 with (fail)
    rw [← hW1]
    clear hW1
    go_wp2_with (fail)
    go_ret2
    exact ⟨_, _, rfl, B1, rfl, rfl⟩
  · have hbI : ¬ (3 : Int) < (nn : Int) := by omega
    have hkeys := leafL_keys hbl (by omega)
    obtain ⟨K1, hK1⟩ : ∃ k, 36 * nn = k := ⟨_, rfl⟩
    obtain ⟨K2, hK2⟩ : ∃ k, 2 + K1 = k := ⟨_, rfl⟩
    have hw1 : IntKind.i64.wrap ((nn : Int) * 36) = (K1 : Int) := by rw [IntKind.wrap_i64]; omega
    have hw2 : IntKind.i64.wrap (2 + (K1 : Int)) = (K2 : Int) := by rw [IntKind.wrap_i64]; omega
    have h3 : (2 : Int) ≤ (K2 : Int) := by omega
    have h4 : (K2 : Int) ≤ 128 := by omega
    have h5 : K2 - 2 = K1 := by omega
    have h6 : 2 ≤ K2 := by omega
    have h7 : K2 ≤ 128 := by omega
    have hlf : leafL bl = entsU ((bl.drop 2).take K1) nn := by unfold leafL; rw [hnn, hK1]
    have hdc : decS bl = if goodL (leafL bl) = true ∧ sealB (encB (leafL bl)) = bl then some (leafL bl) else none := by
      unfold decS
      by_cases h : goodL (leafL bl) = true ∧ sealB (encB (leafL bl)) = bl
      · rw [if_pos h, if_pos ⟨by omega, h⟩]
      · rw [if_neg h, if_neg (fun h9 => h h9.2)]
    have hll : (leafL bl).length = nn := by rw [hlf, entsU_len]
    have hsl := sl_part g1 hbl (m := K1) (by omega)
    have hpl : ((bl.drop 2).take K1).length = 36 * nn := by simp; omega
    have cE := hid (fun W => entries_any (some ⟨n₀, 2, none⟩) K1 126 W)
    have cC := hid (fun (W : World) (bb : Nat) (hb : W.heap[bb]? = some (.cells #[.slice (some ⟨n₀, 2, none⟩) K1 126] 54 (0, 0))) (hs : Sl W 1 encU (.slice (some ⟨n₀, 2, none⟩) K1 126) ((bl.drop 2).take K1)) =>
      CollectE_any W 64 #[.pointer (some ⟨bb, 0, none⟩)] (fun W => W.heap[bb]? = some (.cells #[.slice (some ⟨n₀, 2, none⟩) (36 * nn) 126] 54 (0, 0)) ∧ Sl W 1 encU (.slice (some ⟨n₀, 2, none⟩) (36 * nn) 126) ((bl.drop 2).take K1)) (leafL bl) (by rw [hll]; omega) hkeys
        (enters_of Try.func64 (by kernel_rfl) rfl) (fun B A C hk h => ⟨hk.same _ _ h.1 (.inl rfl), hk.sl h.2⟩)
        (fun W' hB => by rw [hK1]; exact ⟨(Kept.of_below hB 0).same _ _ hb (.inl rfl), (Kept.of_below hB 0).sl hs⟩)
        (by rw [hlf]; exact entries1_seq ((bl.drop 2).take K1) nn n₀ 2 126 bb hpl (by omega) (by constructor; omega; decide)))
    have cN := hid (fun W v (hW : Sl W 35 encE v (leafL bl)) => Encode_any (leafL bl) v W hW hkeys (by rw [hll]; omega))
    obtain ⟨en, hen⟩ : ∃ x, encS (leafL bl) = x := ⟨_, rfl⟩
    rw [hen] at cN
    have hen1 : en.1.length = 128 := by
      rw [← hen]
      unfold encS
      split
      · refine sealB_len ?_
        unfold encB
        rw [List.length_cons, List.length_cons, entsB_len hkeys, hll]; omega
      · rfl
    have hens : (en.2 = 0 ∧ goodL (leafL bl) = true ∧ en.1 = sealB (encB (leafL bl))) ∨ (en.2 = 11 ∧ goodL (leafL bl) = false) := by
      rw [← hen]
      unfold encS
      cases hg : goodL (leafL bl) with
      | true => exact .inl ⟨rfl, rfl, rfl⟩
      | false => exact .inr ⟨rfl, rfl⟩
    clear hen hlf hpl hnn
    obtain ⟨LL, hLL⟩ : ∃ x, leafL bl = x := ⟨_, rfl⟩
    rw [hLL] at cC cN hens hdc hll hkeys
    clear hLL
    replace hll := hid hll
    replace hdc := hid hdc
    replace hens := hid hens
    go_enter Try.func32, Try.ntmps32
    go_upto_region 1 with (fail)
    rw [← hW1]
    clear hW1
    go_wp2_with (fail)
    refine (cE.out _).mono ?_
    rintro e W2 ⟨rfl, hW2⟩
    have b2 := World.alloc_heap_new W1 (.cells #[.slice (some ⟨n₀, 2, none⟩) K1 126] 54)
    have k2 := Kept.alloc 0 W1 (.cells #[.slice (some ⟨n₀, 2, none⟩) K1 126] 54)
    have B2 := B1.alloc (by have := B1.size; omega) (.cells #[.slice (some ⟨n₀, 2, none⟩) K1 126] 54)
    rw [← hW2] at b2 k2 B2
    have g2 := k2.same _ _ g1 (.inl rfl)
    have s2 := k2.sl hsl
    clear hW2 k2 g1 hsl B1 d1 cE
    go_wp2_with (fail)
    refine (cC.out _ _ b2 s2).mono ?_
    rintro e W3 ⟨v3, rfl, o3, b3⟩
    have g3 := (Kept.of_below b3 0).same _ _ g2 (.inl rfl)
    have B3 := B2.trans (b3.mono (by have := B2.size; omega))
    have o3' := ownsRow_mono o3 (show n₀ ≤ _ by have := B2.size; omega)
    have s3 := sl_of_owns (enc := encE) (l := LL) (fun x hx => by rw [encE_len, hkeys x hx]) o3
    obtain ⟨p3, c3, rfl, -, -⟩ := owns_shape o3
    clear b3 o3 cC b2 s2 g2 B2
    replace s3 := hid s3
    go_wp2_with (fail)
    refine (cN.out _ _ s3.out).mono ?_
    rintro e W4 ⟨rfl, b4⟩
    have g4 := (Kept.of_below b4 0).same _ _ g3 (.inl rfl)
    have o4 := (Kept.of_below b4 0).owns o3'
    have B4 := B3.trans (b4.mono (by have := B3.size; omega))
    obtain ⟨eb, er⟩ := en
    dsimp only at hens hen1 ⊢
    obtain ⟨ne, hne⟩ : ∃ n, W4.heap.size = n := ⟨_, rfl⟩
    have hnn : n₀ < ne := by have := (Array.getElem?_eq_some_iff.1 g4).1; omega
    have h1 := World.alloc_heap_new W4 (.cells Try.zeroCells43 43)
    rw [hne] at h1
    have ht1 : (W4.alloc (.cells Try.zeroCells43 43)).there ne 0 (rowU eb).size := there_blk h1 (by rw [rowU_size, hen1]; kernel_rfl)
    have u1 := (Upd.refl h1).setCells (rowU eb).toList (by rw [Array.length_toList, rowU_size, hen1]; kernel_rfl)
    have o5 := upd_owns u1 h1 (by decide) ((Kept.alloc 0 W4 (.cells Try.zeroCells43 43)).owns o4)
    have g5 := (u1.off n₀ (by omega)).trans ((Kept.alloc 0 W4 (.cells Try.zeroCells43 43)).same _ _ g4 (.inl rfl))
    have B5 := u1.below (B4.alloc (by have := B4.size; omega) (.cells Try.zeroCells43 43)) (by omega)
    have e5 := u1.here
    rw [Array.toArray_toList] at e5
    have hi7 : (Try.prog.info? 43).map (·.size) = some (rowU eb).size := by rw [rowU_size, hen1]; kernel_rfl
    clear u1 h1 g3 o3' B3 s3 b4 g4 o4 B4 cN
    go_upto_region 6 with (refine wpList_store_mid rfl 43 _ _ rfl ne 0 (rowU eb) rfl rfl ht1 hi7 (one_rowU _) ?_)
    try simp only [Act.put]
    obtain ⟨W5, hW5⟩ : ∃ W : World, W = (W4.alloc (.cells Try.zeroCells43 43)).setCells ne 0 (rowU eb).toList := ⟨_, rfl⟩
    rw [← hW5] at o5 g5 B5 e5 ⊢
    clear hW5 ht1
    have hre := range_blk (cs := keyV eb) e5
    have hrb := range_blk (cs := keyV bl) g5
    have hie : (Try.prog.info? 43).map (·.size) = some (keyV eb).length := by rw [keyV_len, hen1]; kernel_rfl
    have hib : (Try.prog.info? 43).map (·.size) = some (keyV bl).length := by rw [keyV_len, hbl]; kernel_rfl
    have hq : ∀ W, (binOp .neq 43 (.agg (keyV eb).toArray) (.agg (keyV bl).toArray)).run Try.prog W = .ok (.bool (!decide (eb = bl))) W := fun W => by
      have h := run_neq_u8s (P := Try.prog) W (t := 43) (e := 5) (n := 128) Try.underlying43 Try.underlying5 (by kernel_rfl) (intsU eb) (intsU bl) (by unfold intsU; rw [List.length_map, hen1]) (by unfold intsU; rw [List.length_map, hbl])
      rw [← rowU_u8s, ← rowU_u8s] at h
      rw [show decide (eb = bl) = decide (intsU eb = intsU bl) from decide_eq_decide.2 ⟨fun h => by rw [h], intsU_inj⟩]
      exact h
    obtain ⟨dq, hdq⟩ : ∃ d, decide (eb = bl) = d := ⟨_, rfl⟩
    rw [hdq] at hq
    replace hdq := hid hdq
    clear e5 g5
    rcases hens.out with ⟨rfl, hg, he⟩ | ⟨rfl, hg⟩
    · cases dq with
      | true =>
        have hres : decS bl = some LL := by rw [hdc.out, if_pos ⟨hg, by rw [← he]; exact of_decide_eq_true hdq.out⟩]
        have hvn : Value.slice p3 LL.length c3 ≠ .slice none 0 0 := fun h9 => by
          have := (goodL_len hg).1
          have h8 := (Value.slice.inj h9).2.1
          omega
        replace hres := hid hres
        clear hg he hens hdc hll
        replace hvn := hid hvn
        replace o5 := hid o5
        go_wp2_with (first | refine wpList_load_mid_w (by rfl) 43 _ rfl ne 0 rfl (keyV eb) _ hre Try.underlying43 rfl hie ?_ | refine wpList_load_mid_w (by rfl) 43 _ rfl n₀ 0 rfl (keyV bl) _ hrb Try.underlying43 rfl hib ?_)
        go_ret2
        exact ⟨_, _, rfl, B5, by rw [hres.out]; exact ⟨o5.out, hvn.out, rfl⟩⟩
      | false =>
        have hres : decS bl = none := by rw [hdc.out, if_neg (fun h9 => of_decide_eq_false hdq.out (by rw [he]; exact h9.2))]
        replace hres := hid hres
        clear hg he hens hdc hll
        go_wp2_with (first | refine wpList_load_mid_w (by rfl) 43 _ rfl ne 0 rfl (keyV eb) _ hre Try.underlying43 rfl hie ?_ | refine wpList_load_mid_w (by rfl) 43 _ rfl n₀ 0 rfl (keyV bl) _ hrb Try.underlying43 rfl hib ?_)
        go_ret2
        exact ⟨_, _, rfl, B5, by rw [hres.out]; exact ⟨rfl, rfl⟩⟩
    · have hres : decS bl = none := by rw [hdc.out, if_neg (fun h9 => by rw [hg] at h9; cases h9.1)]
      replace hres := hid hres
      clear hg hens hdc hll
      go_wp2_with (fail)
      go_ret2
      exact ⟨_, _, rfl, B5, by rw [hres.out]; exact ⟨rfl, rfl⟩⟩
end Go.Proofs.Ytomgjapjeckokaa
