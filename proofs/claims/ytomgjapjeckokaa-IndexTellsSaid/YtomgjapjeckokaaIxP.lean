/- The walk of index's Good (printed by gen_ixp.py). -/
import Derived.Test.YtomgjapjeckokaaIxO
import Derived.Deep.DeepCutAuto
import Derived.Deep.RegionHeld3
namespace Go.Proofs.Ytomgjapjeckokaa
open Go.RowKit Go.Shelf Go.Lib

/-- the bitmap of the first n entries, if they stand apart and each may be -/
def usedTo (l : List Ent) : Nat → Option (List UInt8)
  | 0 => some zer16
  | n + 1 => (usedTo l n).bind fun m => match l[n]? with
    | some e => if (withM m e.place e.blocks).2 = 0 ∧ goodL [e] = true then some (withM m e.place e.blocks).1 else none
    | none => none
def goodI (l : List Ent) : Bool := risesL l && (usedTo l l.length).isSome
theorem usedTo_stop {l : List Ent} {n m : Nat} (h : usedTo l n = none) (hm : n ≤ m) : usedTo l m = none := by
  induction m with
  | zero => obtain rfl : n = 0 := by omega
            exact h
  | succ m ih =>
    by_cases e : n = m + 1
    · rw [← e]; exact h
    · rw [usedTo, ih (by omega)]; rfl
theorem withM_len {m : List UInt8} {f n : Int} (hm : m.length = 16) : (withM m f n).1.length = 16 := by
  unfold withM
  split
  · rfl
  · split
    · rename_i r h; exact (withF_len h).trans hm
    · rfl
theorem usedTo_len {l : List Ent} : ∀ {n : Nat} {m : List UInt8}, usedTo l n = some m → m.length = 16
  | 0, m, h => by rw [usedTo] at h; cases h; rfl
  | n + 1, m, h => by
    rw [usedTo] at h
    obtain ⟨m', h1, h2⟩ := Option.bind_eq_some_iff.1 h
    split at h2
    · split at h2
      · cases h2; exact withM_len (usedTo_len h1)
      · cases h2
    · cases h2
def intOkE (e : Ent) : Prop := e.key.length = 32 ∧ -9223372036854775808 ≤ e.place ∧ e.place ≤ 9223372036854775807 ∧ -9223372036854775808 ≤ e.blocks ∧ e.blocks ≤ 9223372036854775807

set_option maxRecDepth 100000 in
set_option maxHeartbeats 2000000 in
theorem iGood_any (l : List Ent) (b o cap : Nat) (w : World) (hs : Sl w 35 encE (.slice (some ⟨b, o, none⟩) l.length cap) l) (hk : ∀ e ∈ l, intOkE e) (hl : l.length ≤ 1000000) (hl0 : l ≠ []) :
    Calls Try.prog 14 #[.slice (some ⟨b, o, none⟩) l.length cap] w fun e w' => e = .returned (.bool (goodI l)) ∧ Below w.heap.size w w' := by
  obtain ⟨n₀, hn₀⟩ : ∃ n, w.heap.size = n := ⟨_, rfl⟩
  have cO := hid (of_any (some ⟨b, o, none⟩) l.length cap w)
  go_enter Try.func14, Try.ntmps14
  go_wp2_with (fail)
  refine cO.out.mono ?_
  rintro e w1 ⟨rfl, b1⟩
  have s1 := (Kept.of_below b1 0).sl hs
  have cR := hid (rises_any l b o cap w1 s1 hl (fun e he => (hk e he).1))
  obtain ⟨rb, hrb⟩ : ∃ x, risesL l = x := ⟨_, rfl⟩
  rw [hrb] at cR
  clear cO
  replace hrb := hid hrb
  go_wp2_with (fail)
  refine cR.out.mono ?_
  rintro e w2 ⟨rfl, b2⟩
  have s2 := (Kept.of_below b2 0).sl s1
  have B2 : Below n₀ w w2 := by rw [← hn₀]; exact b1.trans (b2.mono b1.size)
  clear cR s1 b1 b2
  cases rb with
  | false =>
    have hres : goodI l = false := by unfold goodI; rw [hrb.out]; rfl
    replace hres := hid hres
    go_wp2_with (fail)
    go_ret
    first | exact ⟨by rw [hres.out]; rfl, hn₀ ▸ B2⟩ | exact ⟨by rw [hres.out]; rfl, B2⟩
  | true =>
    have hres : goodI l = (usedTo l l.length).isSome := by unfold goodI; rw [hrb.out]; rfl
    obtain ⟨L, hL⟩ : ∃ L, l.length = L := ⟨_, rfl⟩
    rw [hL] at s2 hs hl hres ⊢
    replace hres := hid hres
    obtain ⟨nu, hnu⟩ : ∃ n, w2.heap.size = n := ⟨_, rfl⟩
    have hnu2 : n₀ ≤ nu := by have := B2.size; omega
    have hbn : b < n₀ := by
      obtain ⟨e, he⟩ : ∃ e, l[0]? = some e := ⟨_, List.getElem?_eq_getElem (List.length_pos_iff.2 hl0)⟩
      obtain ⟨b', o', c', he', -, -, hc⟩ := hs.open hl0
      simp only [Value.slice.injEq, Option.some.injEq, Addr.mk.injEq, and_true] at he'
      obtain ⟨⟨rfl, rfl⟩, -, rfl⟩ := he'
      rw [← hn₀]; exact World.block_lt_of_cell? w _ (cell_place (hc 0 e he) (hk e (List.mem_of_getElem? he)).1).1
    have u1 := World.alloc_heap_new w2 (.cells #[.int .u8 0, .int .u8 0, .int .u8 0, .int .u8 0, .int .u8 0, .int .u8 0, .int .u8 0, .int .u8 0, .int .u8 0, .int .u8 0, .int .u8 0, .int .u8 0, .int .u8 0, .int .u8 0, .int .u8 0, .int .u8 0] 75)
    rw [hnu] at u1
    have u1' : (w2.alloc (.cells #[.int .u8 0, .int .u8 0, .int .u8 0, .int .u8 0, .int .u8 0, .int .u8 0, .int .u8 0, .int .u8 0, .int .u8 0, .int .u8 0, .int .u8 0, .int .u8 0, .int .u8 0, .int .u8 0, .int .u8 0, .int .u8 0] 75)).heap[nu]? = some (.cells (rowU zer16) 75 (0, 0)) := u1
    have s3 := (Kept.alloc 0 w2 (.cells #[.int .u8 0, .int .u8 0, .int .u8 0, .int .u8 0, .int .u8 0, .int .u8 0, .int .u8 0, .int .u8 0, .int .u8 0, .int .u8 0, .int .u8 0, .int .u8 0, .int .u8 0, .int .u8 0, .int .u8 0, .int .u8 0] 75)).sl s2
    have B3 := B2.alloc (by omega) (.cells #[.int .u8 0, .int .u8 0, .int .u8 0, .int .u8 0, .int .u8 0, .int .u8 0, .int .u8 0, .int .u8 0, .int .u8 0, .int .u8 0, .int .u8 0, .int .u8 0, .int .u8 0, .int .u8 0, .int .u8 0, .int .u8 0] 75)
    clear u1 s2 B2 hs
    go_wp2_with (fail)
    go_loopw [14] (fun iv wr => ∃ (k : Nat) (m : List UInt8), k ≤ L ∧ iv = .int .i64 k ∧ usedTo l k = some m ∧ wr.heap[nu]? = some (.cells (rowU m) 75 (0, 0)) ∧ Sl wr 35 encE (.slice (some ⟨b, o, none⟩) L cap) l ∧ Below n₀ w wr) (fun iv _ => L - (RowKit.intOf iv).toNat)
    case atStart => exact ⟨0, zer16, Nat.zero_le _, rfl, rfl, u1', s3, B3⟩
    case round =>
      obtain ⟨k, m, hkL, rfl, hu, qm, qs, qB⟩ := hrel
      clear u1' s3 B3
      by_cases hlt : k < L
      · have hkI : (k : Int) < (L : Int) := by omega
        obtain ⟨e2, he2⟩ : ∃ e, l[k]? = some e := ⟨_, List.getElem?_eq_getElem (by omega)⟩
        obtain ⟨hk2, hp1, hp2, hb1, hb2⟩ := hk e2 (List.mem_of_getElem? he2)
        obtain ⟨b', o', c', he', -, -, hc⟩ := qs.open hl0
        simp only [Value.slice.injEq, Option.some.injEq, Addr.mk.injEq, and_true] at he'
        obtain ⟨⟨rfl, rfl⟩, -, rfl⟩ := he'
        have hr2 := hc k e2 he2
        have hi6 : (Try.prog.info? 48).map (·.size) = some (encE e2).length := by rw [encE_len, hk2]; kernel_rfl
        have hi7 : (Try.prog.info? 48).map (·.size) = some (rowE e2).size := by rw [rowE_size hk2]; kernel_rfl
        obtain ⟨ne, hne⟩ : ∃ n, wr.heap.size = n := ⟨_, rfl⟩
        have hnn : nu < ne := by have := (Array.getElem?_eq_some_iff.1 qm).1; omega
        have g1 := World.alloc_heap_new wr (.cells #[.int .u8 0, .int .u8 0, .int .u8 0, .int .u8 0, .int .u8 0, .int .u8 0, .int .u8 0, .int .u8 0, .int .u8 0, .int .u8 0, .int .u8 0, .int .u8 0, .int .u8 0, .int .u8 0, .int .u8 0, .int .u8 0, .int .u8 0, .int .u8 0, .int .u8 0, .int .u8 0, .int .u8 0, .int .u8 0, .int .u8 0, .int .u8 0, .int .u8 0, .int .u8 0, .int .u8 0, .int .u8 0, .int .u8 0, .int .u8 0, .int .u8 0, .int .u8 0, .int .i64 0, .int .i64 0, .int .i64 0] 48)
        rw [hne] at g1
        have ht1 : (wr.alloc (.cells #[.int .u8 0, .int .u8 0, .int .u8 0, .int .u8 0, .int .u8 0, .int .u8 0, .int .u8 0, .int .u8 0, .int .u8 0, .int .u8 0, .int .u8 0, .int .u8 0, .int .u8 0, .int .u8 0, .int .u8 0, .int .u8 0, .int .u8 0, .int .u8 0, .int .u8 0, .int .u8 0, .int .u8 0, .int .u8 0, .int .u8 0, .int .u8 0, .int .u8 0, .int .u8 0, .int .u8 0, .int .u8 0, .int .u8 0, .int .u8 0, .int .u8 0, .int .u8 0, .int .i64 0, .int .i64 0, .int .i64 0] 48)).there ne 0 (rowE e2).size := there_blk g1 (by rw [rowE_size hk2]; rfl)
        have u1 := (Upd.refl g1).setCells (rowE e2).toList (by rw [Array.length_toList, rowE_size hk2]; rfl)
        have hs1 := u1.sl (fun a h => by cases h; show b ≠ ne; omega) ((Kept.alloc 0 wr (.cells #[.int .u8 0, .int .u8 0, .int .u8 0, .int .u8 0, .int .u8 0, .int .u8 0, .int .u8 0, .int .u8 0, .int .u8 0, .int .u8 0, .int .u8 0, .int .u8 0, .int .u8 0, .int .u8 0, .int .u8 0, .int .u8 0, .int .u8 0, .int .u8 0, .int .u8 0, .int .u8 0, .int .u8 0, .int .u8 0, .int .u8 0, .int .u8 0, .int .u8 0, .int .u8 0, .int .u8 0, .int .u8 0, .int .u8 0, .int .u8 0, .int .u8 0, .int .u8 0, .int .i64 0, .int .i64 0, .int .i64 0] 48)).sl qs)
        have hm1 := (u1.off nu (by omega)).trans ((Kept.alloc 0 wr (.cells #[.int .u8 0, .int .u8 0, .int .u8 0, .int .u8 0, .int .u8 0, .int .u8 0, .int .u8 0, .int .u8 0, .int .u8 0, .int .u8 0, .int .u8 0, .int .u8 0, .int .u8 0, .int .u8 0, .int .u8 0, .int .u8 0, .int .u8 0, .int .u8 0, .int .u8 0, .int .u8 0, .int .u8 0, .int .u8 0, .int .u8 0, .int .u8 0, .int .u8 0, .int .u8 0, .int .u8 0, .int .u8 0, .int .u8 0, .int .u8 0, .int .u8 0, .int .u8 0, .int .i64 0, .int .i64 0, .int .i64 0] 48)).same _ _ qm (.inl rfl))
        have hB1 := u1.below (qB.alloc (by omega) (.cells #[.int .u8 0, .int .u8 0, .int .u8 0, .int .u8 0, .int .u8 0, .int .u8 0, .int .u8 0, .int .u8 0, .int .u8 0, .int .u8 0, .int .u8 0, .int .u8 0, .int .u8 0, .int .u8 0, .int .u8 0, .int .u8 0, .int .u8 0, .int .u8 0, .int .u8 0, .int .u8 0, .int .u8 0, .int .u8 0, .int .u8 0, .int .u8 0, .int .u8 0, .int .u8 0, .int .u8 0, .int .u8 0, .int .u8 0, .int .u8 0, .int .u8 0, .int .u8 0, .int .i64 0, .int .i64 0, .int .i64 0] 48)) (by omega)
        have g2 := u1.here
        rw [Array.toArray_toList] at g2
        clear u1 g1 qs qB hc qm
        go_upto_region 7 with (first | refine wpList_load_mid rfl 48 _ rfl b (o + k * 35) rfl (encE e2) _ hr2 Try.underlying48 rfl hi6 ?_ | refine wpList_store_mid rfl 48 _ _ rfl ne 0 (rowE e2) rfl rfl ht1 hi7 (one_rowE _) ?_)
        try simp only [Act.put]
        obtain ⟨W5, hW5⟩ : ∃ W : World, W = (wr.alloc (.cells #[.int .u8 0, .int .u8 0, .int .u8 0, .int .u8 0, .int .u8 0, .int .u8 0, .int .u8 0, .int .u8 0, .int .u8 0, .int .u8 0, .int .u8 0, .int .u8 0, .int .u8 0, .int .u8 0, .int .u8 0, .int .u8 0, .int .u8 0, .int .u8 0, .int .u8 0, .int .u8 0, .int .u8 0, .int .u8 0, .int .u8 0, .int .u8 0, .int .u8 0, .int .u8 0, .int .u8 0, .int .u8 0, .int .u8 0, .int .u8 0, .int .u8 0, .int .u8 0, .int .i64 0, .int .i64 0, .int .i64 0] 48)).setCells ne 0 (rowE e2).toList := ⟨_, rfl⟩
        rw [← hW5] at g2 hs1 hB1 hm1 ⊢
        clear hW5 ht1 hr2
        have hm16 := usedTo_len hu
        have hrm := range_blk (cs := m.map fun b => Value.int .u8 b.toNat) hm1
        have hi8 : (Try.prog.info? 75).map (·.size) = some (m.map fun b => Value.int .u8 (b.toNat : Int)).length := by rw [List.length_map, hm16]; kernel_rfl
        have hcp := cell_place (o := 0) (range_blk (cs := encE e2) g2) hk2
        obtain ⟨cp1, cp2, cp3⟩ := hcp
        have cp1' : W5.cell? ⟨ne, 32, none⟩ = some (.int .i64 e2.place) := cp1
        have cp2' : W5.cell? ⟨ne, 33, none⟩ = some (.int .i64 e2.blocks) := cp2
        clear cp1 cp2 cp3
        have cW := hid (With_any m e2.place e2.blocks W5 hm16 hp1 hp2 hb1 hb2)
        obtain ⟨m2, hm2⟩ : ∃ x, withM m e2.place e2.blocks = x := ⟨_, rfl⟩
        have hm2l : m2.1.length = 16 := by rw [← hm2]; exact withM_len hm16
        rw [hm2] at cW
        have hnext : usedTo l (k + 1) = if m2.2 = 0 ∧ goodL [e2] = true then some m2.1 else none := by rw [usedTo, hu, Option.bind_some, he2]; show (if (withM m e2.place e2.blocks).2 = 0 ∧ goodL [e2] = true then _ else _) = _; rw [hm2]
        clear hm2 hu
        replace hnext := hid hnext
        go_wp2_with (refine wpList_load_mid rfl 75 _ rfl nu 0 rfl (m.map fun b => Value.int .u8 b.toNat) _ hrm Try.underlying75 rfl hi8 ?_)
        refine cW.out.mono ?_
        rintro e w6 ⟨rfl, b6⟩
        have km := Kept.of_below b6 0
        have hm6 := km.same _ _ hm1 (.inl rfl)
        have hs6 := km.sl hs1
        have hB6 := hB1.trans (b6.mono (by have := hB1.size; omega))
        obtain ⟨nm, hnm⟩ : ∃ n, w6.heap.size = n := ⟨_, rfl⟩
        have hnm2 : nu < nm := by have := (Array.getElem?_eq_some_iff.1 hm6).1; omega
        have z1 := World.alloc_heap_new w6 (.cells #[.int .u8 0, .int .u8 0, .int .u8 0, .int .u8 0, .int .u8 0, .int .u8 0, .int .u8 0, .int .u8 0, .int .u8 0, .int .u8 0, .int .u8 0, .int .u8 0, .int .u8 0, .int .u8 0, .int .u8 0, .int .u8 0] 75)
        rw [hnm] at z1
        have hi9 : (Try.prog.info? 75).map (·.size) = some (rowU m2.1).size := by rw [rowU_size, hm2l]; kernel_rfl
        have ht2 : (w6.alloc (.cells #[.int .u8 0, .int .u8 0, .int .u8 0, .int .u8 0, .int .u8 0, .int .u8 0, .int .u8 0, .int .u8 0, .int .u8 0, .int .u8 0, .int .u8 0, .int .u8 0, .int .u8 0, .int .u8 0, .int .u8 0, .int .u8 0] 75)).there nm 0 (rowU m2.1).size := there_blk z1 (by rw [rowU_size, hm2l]; rfl)
        have v1 := (Upd.refl z1).setCells (rowU m2.1).toList (by rw [Array.length_toList, rowU_size, hm2l]; rfl)
        have hs7 := v1.sl (fun a h => by cases h; show b ≠ nm; omega) ((Kept.alloc 0 w6 (.cells #[.int .u8 0, .int .u8 0, .int .u8 0, .int .u8 0, .int .u8 0, .int .u8 0, .int .u8 0, .int .u8 0, .int .u8 0, .int .u8 0, .int .u8 0, .int .u8 0, .int .u8 0, .int .u8 0, .int .u8 0, .int .u8 0] 75)).sl hs6)
        have hm7 := (v1.off nu (by omega)).trans ((Kept.alloc 0 w6 (.cells #[.int .u8 0, .int .u8 0, .int .u8 0, .int .u8 0, .int .u8 0, .int .u8 0, .int .u8 0, .int .u8 0, .int .u8 0, .int .u8 0, .int .u8 0, .int .u8 0, .int .u8 0, .int .u8 0, .int .u8 0, .int .u8 0] 75)).same _ _ hm6 (.inl rfl))
        have hB7 := v1.below (hB6.alloc (by have := hB6.size; omega) (.cells #[.int .u8 0, .int .u8 0, .int .u8 0, .int .u8 0, .int .u8 0, .int .u8 0, .int .u8 0, .int .u8 0, .int .u8 0, .int .u8 0, .int .u8 0, .int .u8 0, .int .u8 0, .int .u8 0, .int .u8 0, .int .u8 0] 75)) (by omega)
        have z2 := v1.here
        rw [Array.toArray_toList] at z2
        clear v1 z1 hm6 hs6 hB6 km b6 hm1 hs1 hB1 g2 cp1' cp2' hrm cW
        go_upto_region 8 with (refine wpList_store_mid rfl 75 _ _ rfl nm 0 (rowU m2.1) rfl rfl ht2 hi9 (one_rowU _) ?_)
        try simp only [Act.put]
        obtain ⟨W6, hW6⟩ : ∃ W : World, W = (w6.alloc (.cells #[.int .u8 0, .int .u8 0, .int .u8 0, .int .u8 0, .int .u8 0, .int .u8 0, .int .u8 0, .int .u8 0, .int .u8 0, .int .u8 0, .int .u8 0, .int .u8 0, .int .u8 0, .int .u8 0, .int .u8 0, .int .u8 0] 75)).setCells nm 0 (rowU m2.1).toList := ⟨_, rfl⟩
        rw [← hW6] at z2 hs7 hB7 hm7 ⊢
        clear hW6 ht2
        obtain ⟨m2a, m2e⟩ := m2
        dsimp only at hnext z2 hi9 hm2l ⊢
        obtain ⟨bad, hbad⟩ : ∃ x, (!(decide (m2e = 0) && goodL [e2])) = x := ⟨_, rfl⟩
        have hnx : usedTo l (k + 1) = if bad = true then none else some m2a := by
          rw [hnext.out, ← hbad]
          by_cases h0 : m2e = 0 <;> cases hg : goodL [e2] <;> simp [h0]
        replace hnx := hid hnx
        replace hbad := hid hbad
        go_cut [38] (fun c wx => c = .bool bad ∧ Below W6.heap.size W6 wx)
        case first =>
          by_cases h0 : m2e = 0
          · subst h0
            have hcap : L ≤ cap := by
              obtain ⟨b9, o9, c9, he9, h1, h2, -⟩ := hs7.open hl0
              have := (Value.slice.inj he9).2.2
              omega
            have hcapm : cap ≤ maxLen := by
              obtain ⟨b9, o9, c9, he9, h1, h2, -⟩ := hs7.open hl0
              have := (Value.slice.inj he9).2.2
              omega
            obtain ⟨E, hE⟩ : ∃ E, k + 1 = E := ⟨_, rfl⟩
            have hJw : IntKind.i64.wrap ((k : Int) + 1) = (E : Int) := by rw [IntKind.wrap_i64]; omega
            have hJl : E - k = 1 := by omega
            have hQc : (E : Int) ≤ (cap : Int) := by omega
            have hQd : E ≤ cap := by omega
            have hJE : k ≤ E := by omega
            have hcJ : ¬ cap = k := by omega
            have hsub : Sl W6 35 encE (.slice (some ⟨b, o + k * 35, none⟩) 1 (cap - k)) [e2] := by
              obtain ⟨b9, o9, c9, he9, -, -, hc9⟩ := hs7.open hl0
              simp only [Value.slice.injEq, Option.some.injEq, Addr.mk.injEq, and_true] at he9
              obtain ⟨⟨rfl, rfl⟩, -, rfl⟩ := he9
              refine Sl.mk (l := [e2]) (by simp; omega) (by omega) fun i x hx => ?_
              match i, hx with
              | 0, hx =>
                obtain rfl := Option.some.inj hx
                rw [Nat.zero_mul, Nat.add_zero]
                exact hc9 k _ he2
            have cG := hid (lGood_any [e2] b (o + k * 35) (cap - k) W6 hsub (fun e he => by obtain rfl := List.mem_singleton.1 he; exact hk2) (by simp))
            have hbv : bad = !goodL [e2] := by rw [← hbad.out]; simp
            obtain ⟨gb, hgb⟩ : ∃ x, goodL [e2] = x := ⟨_, rfl⟩
            rw [hgb] at hbv cG
            clear hsub hgb
            replace hE := hid hE
            clear z2 hs7 hB7 hm7 hi8 hi9
            replace hbv := hid hbv
            go_wp2_with (fail)
            refine cG.out.mono ?_
            rintro e w9 ⟨rfl, b9⟩
            go_wp2_with (fail)
            go_meet
            case rel => exact ⟨by rw [hbv.out], b9⟩
          · have hbv : bad = true := by rw [← hbad.out]; simp [h0]
            subst hbv
            clear z2 hs7 hB7 hm7 hi8 hi9
            go_wp2_with (fail)
            go_meet
            case rel => exact ⟨rfl, Below.refl _ _⟩
        case rest =>
          obtain ⟨rfl, bc⟩ := hcut
          have kc := Kept.of_below bc 0
          have zc := kc.same _ _ z2 (.inl rfl)
          have mc := kc.same _ _ hm7 (.inl rfl)
          have sc := kc.sl hs7
          have Bc := hB7.trans (bc.mono (by have := hB7.size; omega))
          clear z2 hm7 hs7 hB7 kc bc
          cases bad with
          | true =>
            have hres9 : goodI l = false := by rw [hres.out, usedTo_stop (n := k + 1) (by rw [hnx.out]; rfl) (by omega)]; rfl
            replace hres9 := hid hres9
            go_wp2_with (fail)
            go_ret
            first | exact ⟨by rw [hres9.out]; rfl, hn₀ ▸ Bc⟩ | exact ⟨by rw [hres9.out]; rfl, Bc⟩
          | false =>
            have hrz := range_blk (cs := m2a.map fun b => Value.int .u8 b.toNat) zc
            have hi10 : (Try.prog.info? 75).map (·.size) = some (m2a.map fun b => Value.int .u8 (b.toNat : Int)).length := by rw [List.length_map, hm2l]; kernel_rfl
            have ht3 : wc.there nu 0 (rowU m2a).size := there_blk mc (by rw [rowU_size, rowU_size, hm2l, hm16])
            have x1 := (Upd.refl mc).setCells (rowU m2a).toList (by rw [Array.length_toList, rowU_size, rowU_size, hm2l, hm16])
            have xs1 := x1.sl (fun a h => by cases h; show b ≠ nu; omega) sc
            have xB := x1.below Bc (by omega)
            have x2 := x1.here
            rw [Array.toArray_toList] at x2
            clear x1 zc mc sc Bc
            replace xs1 := hid xs1
            replace xB := hid xB
            replace x2 := hid x2
            go_wp2_with (first | refine wpList_load_mid rfl 75 _ rfl nm 0 rfl (m2a.map fun b => Value.int .u8 b.toNat) _ hrz Try.underlying75 rfl hi10 ?_ | refine wpList_store_mid rfl 75 _ _ rfl nu 0 (rowU m2a) rfl rfl ht3 hi9 (one_rowU _) ?_)
            refine ⟨?_, ?_⟩
            · first | exact ⟨k + 1, m2a, by omega, by go_num, by rw [hnx.out]; rfl, x2.out, xs1.out, xB.out⟩ | ((repeat apply Exists.intro); refine ⟨?_, rfl⟩; exact ⟨k + 1, m2a, by omega, by go_num, by rw [hnx.out]; rfl, x2.out, xs1.out, xB.out⟩)
            · simp [RowKit.intOf]; omega
      · obtain rfl : k = L := by omega
        have hr9 : goodI l = true := by rw [hres.out, hu]; rfl
        replace hr9 := hid hr9
        go_wp2_with (fail)
        go_ret
        first | exact ⟨by rw [hr9.out]; rfl, hn₀ ▸ qB⟩ | exact ⟨by rw [hr9.out]; rfl, qB⟩
end Go.Proofs.Ytomgjapjeckokaa
