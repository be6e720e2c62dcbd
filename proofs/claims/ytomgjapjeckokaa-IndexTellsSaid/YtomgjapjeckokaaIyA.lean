/- The walk of leaf.Encode (printed by gen_iya.py). -/
import Derived.Test.YtomgjapjeckokaaIxO
import Derived.Deep.DeepCutAuto
import Derived.Deep.RegionHeld3
namespace Go.Proofs.Ytomgjapjeckokaa
open Go.RowKit Go.Shelf Go.Lib

def b8 (n : Int) : UInt8 := UInt8.ofNat (n % 256).toNat
def entB (e : Ent) : List UInt8 := e.key ++ [b8 e.place, b8 e.blocks, b8 (e.refs / 256), b8 e.refs]
def encB (l : List Ent) : List UInt8 := 76 :: b8 l.length :: l.flatMap entB
def zer128 : List UInt8 := List.replicate 128 0
/-- what leaf.Encode answers -/
def encS (l : List Ent) : List UInt8 × Int := if goodL l = true then (sealB (encB l), 0) else (zer128, 11)
theorem b8_wrap (n : Int) : IntKind.u8.wrap n = ((b8 n).toNat : Int) := by
  unfold b8
  have h1 : (UInt8.ofNat (n % 256).toNat).toNat = (n % 256).toNat := by
    simp [UInt8.toNat_ofNat']; omega
  rw [h1]
  simp [IntKind.wrap, IntKind.bits, IntKind.signed]
  omega
theorem entB_len {e : Ent} (h : e.key.length = 32) : (entB e).length = 36 := by simp [entB, h]
theorem entsB_len : ∀ {l : List Ent}, (∀ e ∈ l, e.key.length = 32) → (l.flatMap entB).length = 36 * l.length
  | [], _ => rfl
  | e :: l, h => by
    rw [List.flatMap_cons, List.length_append, entB_len (h e (by simp)), entsB_len (fun x hx => h x (by simp [hx])), List.length_cons]; omega
theorem own_ltI {W : World} {base : Nat} {e : TypeId} {size : Nat} {v : Value} {n : Nat} {xs : List Value} (h : W.ownsRow base e size v n xs) {j : Nat} (hj : v.ownBlock = some j) : j < W.heap.size := by
  rcases h.2 with ⟨rfl, _⟩ | ⟨g, cap, cur, rfl, hg, hh, _⟩
  · simp [Value.ownBlock] at hj
  · simp [Value.ownBlock] at hj; subst hj; exact (Array.getElem?_eq_some_iff.1 hh).1
theorem own_typeI {W : World} {base : Nat} {e : TypeId} {size : Nat} {v : Value} {n : Nat} {xs : List Value} (h : W.ownsRow base e size v n xs) {b : Nat} {cs : Array Value} {t : TypeId} {fr : Nat × Nat} (hb : W.heap[b]? = some (.cells cs t fr)) (ht : t ≠ e) : v.ownBlock ≠ some b := fun hj => by
  rcases h.2 with ⟨rfl, _⟩ | ⟨g, cap, cur, rfl, hg, hh, _⟩
  · simp [Value.ownBlock] at hj
  · simp [Value.ownBlock] at hj; subst hj; rw [hb] at hh; cases hh; exact ht rfl
theorem goodL_at {l : List Ent} (h : goodL l = true) {k : Nat} {e : Ent} (he : l[k]? = some e) : oneE e = true := by
  unfold goodL goodTo at h
  simp only [Bool.and_eq_true, List.all_eq_true, List.mem_range] at h
  have := (h.2 k (List.getElem?_eq_some_iff.1 he).1).2
  unfold oneAt at this
  rw [he] at this
  exact this
theorem goodL_len {l : List Ent} (h : goodL l = true) : 1 ≤ l.length ∧ l.length ≤ 3 := by
  unfold goodL at h
  simp only [Bool.and_eq_true, decide_eq_true_eq] at h
  exact h.1
theorem oneE_is {e : Ent} (h : oneE e = true) : 2 ≤ e.place ∧ e.place < 128 ∧ 1 ≤ e.blocks ∧ e.blocks ≤ 8 ∧ e.blocks ≤ 128 - e.place ∧ 0 ≤ e.refs ∧ e.refs ≤ 1000 := by
  unfold oneE at h
  simp only [Bool.and_eq_true, decide_eq_true_eq] at h
  omega
theorem zer128_row : rowU zer128 = Try.zeroCells43 := by kernel_rfl
theorem sl_keyI {w : World} {ne : Nat} {e : Ent} {t : TypeId} {fr : Nat × Nat} (h : w.heap[ne]? = some (.cells (rowE e) t fr)) (hk : e.key.length = 32) : Sl w 1 encU (.slice (some ⟨ne, 0, none⟩) 32 32) e.key := by
  rw [← hk]
  refine Sl.mk (Nat.le_refl _) (by rw [hk]; decide) fun i x hx => ?_
  rw [Nat.zero_add, Nat.mul_one]
  intro j v hj
  match j, hj with
  | 0, hj =>
    obtain rfl := Option.some.inj hj
    refine cell_blk h ?_
    unfold rowE encE
    rw [List.getElem?_toArray, Nat.add_zero, List.getElem?_append_left (by rw [keyV_len]; exact (List.getElem?_eq_some_iff.1 hx).1)]
    unfold keyV
    rw [List.getElem?_map, hx]; rfl

theorem enc_next {l : List Ent} {k : Nat} {e : Ent} {c d : UInt8} (he : l[k]? = some e) : (c :: d :: (l.take k).flatMap entB).flatMap encU ++ e.key.flatMap encU ++ [b8 e.place, b8 e.blocks, b8 (e.refs / 256), b8 e.refs].flatMap encU = (c :: d :: (l.take (k + 1)).flatMap entB).flatMap encU := by
  rw [List.take_add_one, he]
  simp [entB]
theorem sealB_len {bl : List UInt8} (h : bl.length ≤ 124) : (sealB bl).length = 128 := by
  unfold sealB
  rw [List.length_append, List.length_append, chkS_len, List.length_replicate]; omega

set_option maxRecDepth 100000 in
set_option maxHeartbeats 1000000 in
theorem lGood_nil (p : Option Addr) (cap : Nat) (w : World) : Calls Try.prog 37 #[.slice p 0 cap] w fun e w' => e = .returned (.bool (goodL [])) ∧ Below w.heap.size w w' := by
  go_enter Try.func37, Try.ntmps37
  go_wp2_with (fail)
  go_ret
  exact ⟨rfl, Below.refl _ _⟩

set_option maxRecDepth 100000 in
set_option maxHeartbeats 1000000 in
theorem Encode_any (l : List Ent) (v : Value) (w : World) (hs : Sl w 35 encE v l) (hk : ∀ e ∈ l, e.key.length = 32) (hl : l.length ≤ 1000000) :
    Calls Try.prog 28 #[v] w fun r w' => r = .returned (.tuple #[.agg (rowU (encS l).1), .int .i64 (encS l).2]) ∧ Below w.heap.size w w' := by
  obtain ⟨i0, hi, hz0, hz1, hz2⟩ := infoU8_parts
  obtain ⟨n₀, hn₀⟩ : ∃ n, w.heap.size = n := ⟨_, rfl⟩
  have g1 := World.alloc_heap_new w (.cells Try.zeroCells43 43)
  rw [hn₀] at g1
  have s1 := (Kept.alloc 0 w (.cells Try.zeroCells43 43)).sl hs
  have B1 : Below n₀ w (w.alloc (.cells Try.zeroCells43 43)) := by rw [← hn₀]; exact (Below.refl _ w).alloc (Nat.le_refl _) _
  have cG : ∀ W, Sl W 35 encE v l → Calls Try.prog 37 #[v] W fun e w' => e = .returned (.bool (goodL l)) ∧ Below W.heap.size W w' := fun W hW => by
    by_cases h0 : l = []
    · subst h0
      obtain ⟨p9, c9, rfl, -⟩ := hW.shape
      exact lGood_nil p9 c9 W
    · obtain ⟨b, o, c, rfl, -, -, -⟩ := hW.open h0
      exact lGood_any l b o c W hW hk hl
  go_enter Try.func28, Try.ntmps28
  go_upto_region 1 with (fail)
  obtain ⟨W1, hW1⟩ : ∃ W : World, W = w.alloc (.cells Try.zeroCells43 43) := ⟨_, rfl⟩
  rw [← hW1] at g1 s1 B1 ⊢
  clear hW1
  have cG1 := hid (cG W1 s1)
  clear cG
  obtain ⟨gb, hgb⟩ : ∃ x, goodL l = x := ⟨_, rfl⟩
  rw [hgb] at cG1
  replace hgb := hid hgb
  go_wp2_with (fail)
  refine cG1.out.mono ?_
  rintro e w2 ⟨rfl, b2⟩
  have g2 := (Kept.of_below b2 0).same _ _ g1 (.inl rfl)
  have B2 := B1.trans (b2.mono (by have := B1.size; omega))
  clear cG1 s1 g1 B1 b2
  cases gb with
  | false =>
    have hres : encS l = (zer128, 11) := by unfold encS; rw [hgb.out]; rfl
    have ht1 : w2.there n₀ 0 (Try.zeroCells43).size := there_blk g2 rfl
    have u1 := (Upd.refl g2).setCells (Try.zeroCells43).toList rfl
    have BZ := u1.below B2 (Nat.le_refl _)
    have u2 := u1.here
    rw [Array.toArray_toList] at u2
    have hi7 : (Try.prog.info? 43).map (·.size) = some (Try.zeroCells43).size := by kernel_rfl
    clear u1
    replace u2 := hid u2
    replace BZ := hid BZ
    replace hres := hid hres
    go_wp2_with (refine wpList_store_mid rfl 43 _ _ rfl n₀ 0 (Try.zeroCells43) rfl rfl ht1 hi7 (by kernel_rfl) ?_)
    exact outRowTmp (ty := 43) rfl u2.out rfl rfl rfl (by kernel_rfl) hi7 ⟨by rw [hres.out]; show Ending.returned (.tuple #[.agg Try.zeroCells43, .int .i64 11]) = _; rw [zer128_row], hn₀ ▸ BZ.out⟩
  | true =>
    have hres : encS l = (sealB (encB l), 0) := by unfold encS; rw [hgb.out]; rfl
    obtain ⟨hl1, hl3⟩ := goodL_len hgb.out
    replace hres := hid hres
    have hl0 : l ≠ [] := fun e => by rw [e] at hl1; simp at hl1
    obtain ⟨b, o, cap, rfl, -, -, -⟩ := hs.open hl0
    obtain ⟨L, hL⟩ : ∃ L, l.length = L := ⟨_, rfl⟩
    rw [hL] at hs hl1 hl3 ⊢
    have hLw : IntKind.u8.wrap (L : Int) = ((b8 L).toNat : Int) := b8_wrap _
    obtain ⟨nb, hnb⟩ : ∃ n, w2.heap.size = n := ⟨_, rfl⟩
    have hnb2 : n₀ < nb := by have := (Array.getElem?_eq_some_iff.1 g2).1; omega
    obtain ⟨LI, hLI⟩ : ∃ o : Obj, o = .cells #[.int .u8 76, .int .u8 (b8 L).toNat] 5 := ⟨_, rfl⟩
    have g3 := (Kept.alloc 0 w2 LI).same _ _ g2 (.inl rfl)
    have B3 := B2.alloc (by omega) LI
    have o3 : (w2.alloc LI).ownsRow (n₀ + 1) 5 1 (.slice (some ⟨nb, 0, none⟩) 2 2) 2 ((([76, b8 L] : List UInt8)).flatMap encU) := by
      rw [hLI, ← hnb]
      exact ⟨rfl, .inr ⟨w2.heap.size, 2, _, rfl, by omega, World.alloc_heap_new w2 _, Nat.le_refl _, by decide, rfl, rfl⟩⟩
    clear g2 B2
    go_upto_region 4 with (fail)
    (try rw [hnb]); rw [← hLI]
    obtain ⟨W3, hW3⟩ : ∃ W : World, W = w2.alloc LI := ⟨_, rfl⟩
    rw [← hW3] at g3 B3 o3 ⊢
    clear hW3 hLI
    go_wp2_with (fail)
    go_loopw [4, 17] (fun bv iv wr => ∃ k : Nat, k ≤ L ∧ iv = .int .i64 k ∧ wr.ownsRow (n₀ + 1) 5 1 bv (2 + 36 * k) ((76 :: b8 L :: (l.take k).flatMap entB).flatMap encU) ∧ bv ≠ .slice none 0 0 ∧ wr.heap[n₀]? = some (.cells Try.zeroCells43 43 (0, 0)) ∧ Below n₀ w wr) (fun _ iv _ => L - (RowKit.intOf iv).toNat)
    case atStart => exact ⟨0, Nat.zero_le _, rfl, o3, by simp, g3, B3⟩
    case round =>
      obtain ⟨k, hkL, rfl, oW, hbn, hn5, B5⟩ := hrel
      clear o3 g3 B3
      obtain ⟨pb, cb, rfl, -, -⟩ := owns_shape oW
      by_cases hlt : k < L
      · have hkI : (k : Int) < (L : Int) := by omega
        obtain ⟨e2, he2⟩ : ∃ e, l[k]? = some e := ⟨_, List.getElem?_eq_getElem (by omega)⟩
        have hk2 := hk e2 (List.mem_of_getElem? he2)
        obtain ⟨hp1, hp2, hp3, hp4, -, hp5, hp6⟩ := oneE_is (goodL_at hgb.out he2)
        have qs := (Kept.of_below (hn₀ ▸ B5 : Below w.heap.size w wr) 0).sl hs
        obtain ⟨b', o', c', he', -, -, hc⟩ := qs.open hl0
        rw [hL] at he'
        simp only [Value.slice.injEq, Option.some.injEq, Addr.mk.injEq, and_true] at he'
        obtain ⟨⟨rfl, rfl⟩, -, rfl⟩ := he'
        have hr2 := hc k e2 he2
        have hi6 : (Try.prog.info? 48).map (·.size) = some (encE e2).length := by rw [encE_len, hk2]; kernel_rfl
        have hi7 : (Try.prog.info? 48).map (·.size) = some (rowE e2).size := by rw [rowE_size hk2]; kernel_rfl
        obtain ⟨ne, hne⟩ : ∃ n, wr.heap.size = n := ⟨_, rfl⟩
        have hneo : (Value.slice pb (2 + 36 * k) cb).ownBlock ≠ some ne := fun e9 => by have := own_ltI oW e9; omega
        have g1 := World.alloc_heap_new wr (.cells #[.int .u8 0, .int .u8 0, .int .u8 0, .int .u8 0, .int .u8 0, .int .u8 0, .int .u8 0, .int .u8 0, .int .u8 0, .int .u8 0, .int .u8 0, .int .u8 0, .int .u8 0, .int .u8 0, .int .u8 0, .int .u8 0, .int .u8 0, .int .u8 0, .int .u8 0, .int .u8 0, .int .u8 0, .int .u8 0, .int .u8 0, .int .u8 0, .int .u8 0, .int .u8 0, .int .u8 0, .int .u8 0, .int .u8 0, .int .u8 0, .int .u8 0, .int .u8 0, .int .i64 0, .int .i64 0, .int .i64 0] 48)
        rw [hne] at g1
        have ht1 : (wr.alloc (.cells #[.int .u8 0, .int .u8 0, .int .u8 0, .int .u8 0, .int .u8 0, .int .u8 0, .int .u8 0, .int .u8 0, .int .u8 0, .int .u8 0, .int .u8 0, .int .u8 0, .int .u8 0, .int .u8 0, .int .u8 0, .int .u8 0, .int .u8 0, .int .u8 0, .int .u8 0, .int .u8 0, .int .u8 0, .int .u8 0, .int .u8 0, .int .u8 0, .int .u8 0, .int .u8 0, .int .u8 0, .int .u8 0, .int .u8 0, .int .u8 0, .int .u8 0, .int .u8 0, .int .i64 0, .int .i64 0, .int .i64 0] 48)).there ne 0 (rowE e2).size := there_blk g1 (by rw [rowE_size hk2]; rfl)
        have u1 := (Upd.refl g1).setCells (rowE e2).toList (by rw [Array.length_toList, rowE_size hk2]; rfl)
        have hnn : n₀ < ne := by have := (Array.getElem?_eq_some_iff.1 hn5).1; omega
        have oW1 := upd_owns u1 g1 (by decide) ((Kept.alloc 0 wr (.cells #[.int .u8 0, .int .u8 0, .int .u8 0, .int .u8 0, .int .u8 0, .int .u8 0, .int .u8 0, .int .u8 0, .int .u8 0, .int .u8 0, .int .u8 0, .int .u8 0, .int .u8 0, .int .u8 0, .int .u8 0, .int .u8 0, .int .u8 0, .int .u8 0, .int .u8 0, .int .u8 0, .int .u8 0, .int .u8 0, .int .u8 0, .int .u8 0, .int .u8 0, .int .u8 0, .int .u8 0, .int .u8 0, .int .u8 0, .int .u8 0, .int .u8 0, .int .u8 0, .int .i64 0, .int .i64 0, .int .i64 0] 48)).owns oW)
        have hn51 := (u1.off n₀ (by omega)).trans ((Kept.alloc 0 wr (.cells #[.int .u8 0, .int .u8 0, .int .u8 0, .int .u8 0, .int .u8 0, .int .u8 0, .int .u8 0, .int .u8 0, .int .u8 0, .int .u8 0, .int .u8 0, .int .u8 0, .int .u8 0, .int .u8 0, .int .u8 0, .int .u8 0, .int .u8 0, .int .u8 0, .int .u8 0, .int .u8 0, .int .u8 0, .int .u8 0, .int .u8 0, .int .u8 0, .int .u8 0, .int .u8 0, .int .u8 0, .int .u8 0, .int .u8 0, .int .u8 0, .int .u8 0, .int .u8 0, .int .i64 0, .int .i64 0, .int .i64 0] 48)).same _ _ hn5 (.inl rfl))
        have hB1 := u1.below (B5.alloc (by omega) (.cells #[.int .u8 0, .int .u8 0, .int .u8 0, .int .u8 0, .int .u8 0, .int .u8 0, .int .u8 0, .int .u8 0, .int .u8 0, .int .u8 0, .int .u8 0, .int .u8 0, .int .u8 0, .int .u8 0, .int .u8 0, .int .u8 0, .int .u8 0, .int .u8 0, .int .u8 0, .int .u8 0, .int .u8 0, .int .u8 0, .int .u8 0, .int .u8 0, .int .u8 0, .int .u8 0, .int .u8 0, .int .u8 0, .int .u8 0, .int .u8 0, .int .u8 0, .int .u8 0, .int .i64 0, .int .i64 0, .int .i64 0] 48)) (by omega)
        have g2 := u1.here
        rw [Array.toArray_toList] at g2
        clear u1 g1 qs B5 hc oW hn5
        go_upto_region 7 with (first | refine wpList_load_mid rfl 48 _ rfl b (o + k * 35) rfl (encE e2) _ hr2 Try.underlying48 rfl hi6 ?_ | refine wpList_store_mid rfl 48 _ _ rfl ne 0 (rowE e2) rfl rfl ht1 hi7 (one_rowE _) ?_)
        try simp only [Act.put]
        obtain ⟨W4, hW4⟩ : ∃ W : World, W = (wr.alloc (.cells #[.int .u8 0, .int .u8 0, .int .u8 0, .int .u8 0, .int .u8 0, .int .u8 0, .int .u8 0, .int .u8 0, .int .u8 0, .int .u8 0, .int .u8 0, .int .u8 0, .int .u8 0, .int .u8 0, .int .u8 0, .int .u8 0, .int .u8 0, .int .u8 0, .int .u8 0, .int .u8 0, .int .u8 0, .int .u8 0, .int .u8 0, .int .u8 0, .int .u8 0, .int .u8 0, .int .u8 0, .int .u8 0, .int .u8 0, .int .u8 0, .int .u8 0, .int .u8 0, .int .i64 0, .int .i64 0, .int .i64 0] 48)).setCells ne 0 (rowE e2).toList := ⟨_, rfl⟩
        rw [← hW4] at g2 oW1 hn51 hB1 ⊢
        clear hW4 ht1 hr2
        have oW : W4.drew.ownsRow (n₀ + 1) 5 1 _ _ _ := (Kept.drewN 0 W4 1).owns oW1
        have hn5 : W4.drew.heap[n₀]? = _ := hn51
        have B5 : Below n₀ w W4.drew := hB1.drewN 1
        replace g2 : W4.drew.heap[ne]? = _ := g2
        have sk5 := sl_keyI g2 hk2
        have sS := hid (fun (W : World) (h : W.heap[ne]? = some (.cells (rowE e2) 48 (0, 0))) => (show (fun W => W.cell? ⟨ne, 32, none⟩ = some (.int .i64 e2.place) ∧ W.cell? ⟨ne, 33, none⟩ = some (.int .i64 e2.blocks) ∧ W.cell? ⟨ne, 34, none⟩ = some (.int .i64 e2.refs)) W from ⟨(cell_place (o := 0) (range_blk (cs := encE e2) h) hk2).1, (cell_place (o := 0) (range_blk (cs := encE e2) h) hk2).2.1, (cell_place (o := 0) (range_blk (cs := encE e2) h) hk2).2.2⟩))
        have hst := sS.out _ g2
        have hw1 := b8_wrap e2.place
        have hw2 := b8_wrap e2.blocks
        have hw3 := b8_wrap e2.refs
        have hw4 := b8_wrap (e2.refs / 256)
        clear oW1 hn51 hB1
        refine wp_region_held_drew (S := (fun W => W.cell? ⟨ne, 32, none⟩ = some (.int .i64 e2.place) ∧ W.cell? ⟨ne, 33, none⟩ = some (.int .i64 e2.blocks) ∧ W.cell? ⟨ne, 34, none⟩ = some (.int .i64 e2.refs))) (by kernel_rfl) hst (fun hHeld => ?_)
        generalize W4.drew = W5 at *
        refine wpAnyH_take (i := 0) (oi := ⟨some 21, _, _, _, _, _⟩) (v := ?_) rfl (by kernel_rfl) (by kernel_rfl) (by kernel_rfl) (fun _ _ _ h => h) (Or.inl ⟨by rfl, ?_⟩) (by assumption) ?_
        rotate_left
        · intro w hSw; (try dsimp only at hSw); go_simp <;> with_reducible rfl
        try simp only [Act.put, List.setIfInBounds_toArray, List.set_cons_zero, List.set_cons_succ]
        refine wpAnyH_take (i := 1) (oi := ⟨some 22, _, _, _, _, _⟩) (v := ?_) rfl (by kernel_rfl) (by kernel_rfl) (by kernel_rfl) (fun _ _ _ h => h) (Or.inl ⟨by rfl, ?_⟩) (by assumption) ?_
        rotate_left
        · intro w hSw; (try dsimp only at hSw); go_simp <;> with_reducible rfl
        try simp only [Act.put, List.setIfInBounds_toArray, List.set_cons_zero, List.set_cons_succ]
        refine wpAnyH_take (i := 2) (oi := ⟨some 23, _, _, _, _, _⟩) (v := ?_) rfl (by kernel_rfl) (by kernel_rfl) (by kernel_rfl) (fun _ _ _ h => h) (Or.inl ⟨by rfl, ?_⟩) (by assumption) ?_
        rotate_left
        · intro w hSw; (try dsimp only at hSw); go_simp <;> with_reducible rfl
        try simp only [Act.put, List.setIfInBounds_toArray, List.set_cons_zero, List.set_cons_succ]
        refine wpAnyH_take (i := 4) (oi := ⟨some 25, _, _, _, _, _⟩) (v := ?_) rfl (by kernel_rfl) (by kernel_rfl) (by kernel_rfl) (fun _ _ _ h => h) (Or.inl ⟨by rfl, ?_⟩) (by assumption) ?_
        rotate_left
        · intro w hSw; (try dsimp only at hSw); go_simp <;> with_reducible rfl
        try simp only [Act.put, List.setIfInBounds_toArray, List.set_cons_zero, List.set_cons_succ]
        refine wpAnyH_take (i := 5) (oi := ⟨some 26, _, _, _, _, _⟩) (v := ?_) rfl (by kernel_rfl) (by kernel_rfl) (by kernel_rfl) (fun _ _ _ h => h) (Or.inl ⟨by rfl, ?_⟩) (by assumption) ?_
        rotate_left
        · intro w hSw; (try dsimp only at hSw); go_simp <;> with_reducible rfl
        try simp only [Act.put, List.setIfInBounds_toArray, List.set_cons_zero, List.set_cons_succ]
        refine wpAnyH_take (i := 6) (oi := ⟨some 27, _, _, _, _, _⟩) (v := ?_) rfl (by kernel_rfl) (by kernel_rfl) (by kernel_rfl) (fun _ _ _ h => h) (Or.inl ⟨by rfl, ?_⟩) (by assumption) ?_
        rotate_left
        · intro w hSw; (try dsimp only at hSw); go_simp <;> with_reducible rfl
        try simp only [Act.put, List.setIfInBounds_toArray, List.set_cons_zero, List.set_cons_succ]
        refine wpAnyH_take (i := 7) (oi := ⟨some 28, _, _, _, _, _⟩) (v := ?_) rfl (by kernel_rfl) (by kernel_rfl) (by kernel_rfl) (fun _ _ _ h => h) (Or.inl ⟨by rfl, ?_⟩) (by assumption) ?_
        rotate_left
        · intro w hSw; (try dsimp only at hSw); go_simp <;> with_reducible rfl
        try simp only [Act.put, List.setIfInBounds_toArray, List.set_cons_zero, List.set_cons_succ]
        refine wpAnyH_take (i := 8) (oi := ⟨some 29, _, _, _, _, _⟩) (v := ?_) rfl (by kernel_rfl) (by kernel_rfl) (by kernel_rfl) (fun _ _ _ h => h) (Or.inl ⟨by rfl, ?_⟩) (by assumption) ?_
        rotate_left
        · intro w hSw; (try dsimp only at hSw); go_simp <;> with_reducible rfl
        try simp only [Act.put, List.setIfInBounds_toArray, List.set_cons_zero, List.set_cons_succ]
        refine wpAnyH_take (i := 9) (oi := ⟨some 30, _, _, _, _, _⟩) (v := ?_) rfl (by kernel_rfl) (by kernel_rfl) (by kernel_rfl) (fun _ _ _ h => h) (Or.inl ⟨by rfl, ?_⟩) (by assumption) ?_
        rotate_left
        · intro w hSw; (try dsimp only at hSw); go_simp <;> with_reducible rfl
        try simp only [Act.put, List.setIfInBounds_toArray, List.set_cons_zero, List.set_cons_succ]
        refine wpAnyH_take (i := 10) (oi := ⟨some 31, _, _, _, _, _⟩) (v := ?_) rfl (by kernel_rfl) (by kernel_rfl) (by kernel_rfl) (fun _ _ _ h => h) (Or.inl ⟨by rfl, ?_⟩) (by assumption) ?_
        rotate_left
        · intro w hSw; (try dsimp only at hSw); go_simp <;> with_reducible rfl
        try simp only [Act.put, List.setIfInBounds_toArray, List.set_cons_zero, List.set_cons_succ]
        refine wpAnyH_take (i := 11) (oi := ⟨some 32, _, _, _, _, _⟩) (v := ?_) rfl (by kernel_rfl) (by kernel_rfl) (by kernel_rfl) (fun _ _ _ h => h) (Or.inl ⟨by rfl, ?_⟩) (by assumption) ?_
        rotate_left
        · intro w hSw; (try dsimp only at hSw); go_simp <;> with_reducible rfl
        try simp only [Act.put, List.setIfInBounds_toArray, List.set_cons_zero, List.set_cons_succ]
        refine wpAnyH_take (i := 12) (oi := ⟨some 33, _, _, _, _, _⟩) (v := ?_) rfl (by kernel_rfl) (by kernel_rfl) (by kernel_rfl) (fun _ _ _ h => h) (Or.inl ⟨by rfl, ?_⟩) (by assumption) ?_
        rotate_left
        · intro w hSw; (try dsimp only at hSw); go_simp <;> with_reducible rfl
        try simp only [Act.put, List.setIfInBounds_toArray, List.set_cons_zero, List.set_cons_succ]
        refine wpAnyH_take (i := 13) (oi := ⟨some 34, _, _, _, _, _⟩) (v := ?_) rfl (by kernel_rfl) (by kernel_rfl) (by kernel_rfl) (fun _ _ _ h => h) (Or.inl ⟨by rfl, ?_⟩) (by assumption) ?_
        rotate_left
        · intro w hSw; (try dsimp only at hSw); go_simp <;> with_reducible rfl
        try simp only [Act.put, List.setIfInBounds_toArray, List.set_cons_zero, List.set_cons_succ]
        refine wpAnyH_take (i := 14) (oi := ⟨some 35, _, _, _, _, _⟩) (v := ?_) rfl (by kernel_rfl) (by kernel_rfl) (by kernel_rfl) (fun _ _ _ h => h) (Or.inl ⟨by rfl, ?_⟩) (by assumption) ?_
        rotate_left
        · intro w hSw; (try dsimp only at hSw); go_simp <;> with_reducible rfl
        try simp only [Act.put, List.setIfInBounds_toArray, List.set_cons_zero, List.set_cons_succ]
        refine wpAnyH_take (i := 15) (oi := ⟨some 36, _, _, _, _, _⟩) (v := ?_) rfl (by kernel_rfl) (by kernel_rfl) (by kernel_rfl) (fun _ _ _ h => h) (Or.inl ⟨by rfl, ?_⟩) (by assumption) ?_
        rotate_left
        · intro w hSw; (try dsimp only at hSw); go_simp <;> with_reducible rfl
        try simp only [Act.put, List.setIfInBounds_toArray, List.set_cons_zero, List.set_cons_succ]
        refine wpAnyH_take (i := 16) (oi := ⟨some 37, _, _, _, _, _⟩) (v := ?_) rfl (by kernel_rfl) (by kernel_rfl) (by kernel_rfl) (fun _ _ _ h => h) (Or.inl ⟨by rfl, ?_⟩) (by assumption) ?_
        rotate_left
        · intro w hSw; (try dsimp only at hSw); go_simp <;> with_reducible rfl
        try simp only [Act.put, List.setIfInBounds_toArray, List.set_cons_zero, List.set_cons_succ]
        refine wpAnyH_ready (rs := [3, 17]) (by kernel_rfl) (by simp) ?_
        refine AllReadyH.cons rfl (fun K hK => ?_) ?_
        · refine (if_pos (by rfl)).mpr ?_
          have hneA := own_typeI oW g2 (by decide)
          refine wp_append_sl _ _ 54 rfl (n₀ + 1) 5 i0 (.int .u8 0) 1 1 Try.underlying54 hi hz0 hz1 hz2 rfl (by decide) _ _ _ rfl oW encU _ e2.key rfl sk5 (encU_enc _) (by unfold maxLen; omega) (by omega) (by have h9 := (Array.getElem?_eq_some_iff.1 hn5).1; omega) (fun v3 w3 o3 hg3 n3 => hK.out _ _ ?_ (fun hHeld => ?_))
          · exact sS.out _ ((hg3.block ne (Array.getElem?_eq_some_iff.1 g2).1 (fun e9 => hneA e9.symm)).trans g2)
          have g3 := (hg3.block ne (Array.getElem?_eq_some_iff.1 g2).1 (fun e9 => hneA e9.symm)).trans g2
          have hn3 := grown_blkI oW hg3 (show n₀ < n₀ + 1 by omega) hn5
          have B3 := B5.grown hg3 (by have h9 := (Array.getElem?_eq_some_iff.1 hn5).1; omega) (fun j e9 => by have := own_baseI oW e9; omega)
          have hne3 := own_typeI o3 g3 (by decide)
          clear hK K
          try simp only [Act.put, List.setIfInBounds_toArray]
          refine wpAnyH_ready (rs := [17]) (by kernel_rfl) (by simp) ?_
          refine AllReadyH.cons rfl (fun K hK => ?_) AllReadyH.nil
          go_simp
          obtain ⟨nl, hnl⟩ : ∃ n, w3.heap.size = n := ⟨_, rfl⟩
          have gl3 := World.alloc_heap_new w3 (.cells #[.int .u8 (b8 e2.place).toNat, .int .u8 (b8 e2.blocks).toNat, .int .u8 (b8 (e2.refs / 256)).toNat, .int .u8 (b8 e2.refs).toNat] 5)
          rw [hnl] at gl3
          have kL := Kept.alloc 0 w3 (.cells #[.int .u8 (b8 e2.place).toNat, .int .u8 (b8 e2.blocks).toNat, .int .u8 (b8 (e2.refs / 256)).toNat, .int .u8 (b8 e2.refs).toNat] 5)
          replace o3 := kL.owns o3
          replace B3 := B3.alloc (by have h9 := (Array.getElem?_eq_some_iff.1 hn3).1; omega) (.cells #[.int .u8 (b8 e2.place).toNat, .int .u8 (b8 e2.blocks).toNat, .int .u8 (b8 (e2.refs / 256)).toNat, .int .u8 (b8 e2.refs).toNat] 5)
          replace g3 := kL.same _ _ g3 (.inl rfl)
          replace hn3 := kL.same _ _ hn3 (.inl rfl)
          refine hK.out _ _ (sS.out _ g3) (fun hHeld => ?_)
          clear hK K
          try simp only [Act.put, List.setIfInBounds_toArray, List.set_cons_zero, List.set_cons_succ]
          refine wpAnyH_ready (rs := [18]) (by kernel_rfl) (by simp) ?_
          refine AllReadyH.cons rfl (fun K hK => ?_) AllReadyH.nil
          refine (if_pos (by rfl)).mpr ?_
          refine wp_append_sl _ _ 54 rfl (n₀ + 1) 5 i0 (.int .u8 0) 1 1 Try.underlying54 hi hz0 hz1 hz2 rfl (by decide) _ _ _ rfl o3 encU _ [b8 e2.place, b8 e2.blocks, b8 (e2.refs / 256), b8 e2.refs] rfl (by rw [hnl]; exact sl_row gl3) (encU_enc _) (by unfold maxLen; simp only [List.length_cons, List.length_nil]; omega) (by simp only [List.length_cons, List.length_nil]; omega) (by have h9 := (Array.getElem?_eq_some_iff.1 hn3).1; omega) (fun v7 w7 o7 hg7 n7 => hK.out _ _ ?_ (fun hHeld => ?_))
          · exact sS.out _ ((hg7.block ne (Array.getElem?_eq_some_iff.1 g3).1 (fun e9 => hne3 e9.symm)).trans g3)
          have hn7 := grown_blkI o3 hg7 (show n₀ < n₀ + 1 by omega) hn3
          have B7 := B3.grown hg7 (by have h9 := (Array.getElem?_eq_some_iff.1 hn3).1; omega) (fun j e9 => by have := own_baseI o3 e9; omega)
          clear hK K
          try simp only [Act.put, List.setIfInBounds_toArray]
          refine wpAnyH_take (i := 19) (oi := ⟨some 4, _, _, _, _, _⟩) (v := ?_) rfl (by kernel_rfl) (by kernel_rfl) (by kernel_rfl) (fun _ _ _ h => h) (Or.inl ⟨by rfl, ?_⟩) (by assumption) ?_
          rotate_left
          · intro w hSw; (try dsimp only at hSw); go_simp <;> with_reducible rfl
          try simp only [Act.put]
          refine wpAnyH_done (by kernel_rfl) ?_ _
          have hn8 : v7 ≠ .slice none 0 0 := fun e9 => by have h9 := (n7.1 e9).1; exact hbn (n3.1 h9).1
          have o8 : w7.ownsRow (n₀ + 1) 5 1 v7 (2 + 36 * (k + 1)) ((76 :: b8 L :: (l.take (k + 1)).flatMap entB).flatMap encU) := by rw [← enc_next he2, show 2 + 36 * (k + 1) = 2 + 36 * k + e2.key.length + [b8 e2.place, b8 e2.blocks, b8 (e2.refs / 256), b8 e2.refs].length by rw [hk2]; simp only [List.length_cons, List.length_nil]; omega]; exact o7
          clear o7 o3 hg7 hg3 n7 n3 g3 gl3 hn3 B3 hHeld hst sk5 g2 oW hn5 B5
          replace o8 := hid o8
          replace hn7 := hid hn7
          replace B7 := hid B7
          replace hn8 := hid hn8
          go_wp2_with (fail)
          refine ⟨?_, ?_⟩
          · first | exact ⟨k + 1, by omega, by go_num, o8.out, hn8.out, hn7.out, B7.out⟩ | ((repeat apply Exists.intro); refine ⟨?_, rfl⟩; exact ⟨k + 1, by omega, by go_num, o8.out, hn8.out, hn7.out, B7.out⟩)
          · simp [RowKit.intOf]; omega
        refine AllReadyH.cons rfl (fun K hK => ?_) AllReadyH.nil
        go_simp
        obtain ⟨nl, hnl⟩ : ∃ n, W5.heap.size = n := ⟨_, rfl⟩
        have gl := World.alloc_heap_new W5 (.cells #[.int .u8 (b8 e2.place).toNat, .int .u8 (b8 e2.blocks).toNat, .int .u8 (b8 (e2.refs / 256)).toNat, .int .u8 (b8 e2.refs).toNat] 5)
        rw [hnl] at gl
        have kL := Kept.alloc 0 W5 (.cells #[.int .u8 (b8 e2.place).toNat, .int .u8 (b8 e2.blocks).toNat, .int .u8 (b8 (e2.refs / 256)).toNat, .int .u8 (b8 e2.refs).toNat] 5)
        have oL := kL.owns oW
        have gL := kL.same _ _ g2 (.inl rfl)
        have hnL := kL.same _ _ hn5 (.inl rfl)
        have BL := B5.alloc (by have h9 := (Array.getElem?_eq_some_iff.1 hn5).1; omega) (.cells #[.int .u8 (b8 e2.place).toNat, .int .u8 (b8 e2.blocks).toNat, .int .u8 (b8 (e2.refs / 256)).toNat, .int .u8 (b8 e2.refs).toNat] 5)
        have skL := kL.sl sk5
        have hnlo := fun e9 => (show ¬ _ from fun h9 => by have := own_ltI oW h9; omega : (Value.slice pb (2 + 36 * k) cb).ownBlock ≠ some nl) e9
        refine hK.out _ _ (sS.out _ gL) (fun hHeld => ?_)
        clear hK K
        try simp only [Act.put, List.setIfInBounds_toArray, List.set_cons_zero, List.set_cons_succ]
        refine wpAnyH_ready (rs := [3]) (by kernel_rfl) (by simp) ?_
        refine AllReadyH.cons rfl (fun K hK => ?_) AllReadyH.nil
        refine (if_pos (by rfl)).mpr ?_
        have hneA := own_typeI oL gL (by decide)
        refine wp_append_sl _ _ 54 rfl (n₀ + 1) 5 i0 (.int .u8 0) 1 1 Try.underlying54 hi hz0 hz1 hz2 rfl (by decide) _ _ _ rfl oL encU _ e2.key rfl skL (encU_enc _) (by unfold maxLen; omega) (by omega) (by have h9 := (Array.getElem?_eq_some_iff.1 hnL).1; omega) (fun v3 w3 o3 hg3 n3 => hK.out _ _ ?_ (fun hHeld => ?_))
        · exact sS.out _ ((hg3.block ne (Array.getElem?_eq_some_iff.1 gL).1 (fun e9 => hneA e9.symm)).trans gL)
        have g3 := (hg3.block ne (Array.getElem?_eq_some_iff.1 gL).1 (fun e9 => hneA e9.symm)).trans gL
        have hn3 := grown_blkI oL hg3 (show n₀ < n₀ + 1 by omega) hnL
        have B3 := BL.grown hg3 (by have h9 := (Array.getElem?_eq_some_iff.1 hnL).1; omega) (fun j e9 => by have := own_baseI oL e9; omega)
        have hne3 := own_typeI o3 g3 (by decide)
        have gl3 := (hg3.block nl (Array.getElem?_eq_some_iff.1 gl).1 (fun e9 => hnlo e9.symm)).trans gl
        clear hK K
        try simp only [Act.put, List.setIfInBounds_toArray]
        refine wpAnyH_ready (rs := [18]) (by kernel_rfl) (by simp) ?_
        refine AllReadyH.cons rfl (fun K hK => ?_) AllReadyH.nil
        refine (if_pos (by rfl)).mpr ?_
        refine wp_append_sl _ _ 54 rfl (n₀ + 1) 5 i0 (.int .u8 0) 1 1 Try.underlying54 hi hz0 hz1 hz2 rfl (by decide) _ _ _ rfl o3 encU _ [b8 e2.place, b8 e2.blocks, b8 (e2.refs / 256), b8 e2.refs] rfl (by rw [hnl]; exact sl_row gl3) (encU_enc _) (by unfold maxLen; simp only [List.length_cons, List.length_nil]; omega) (by simp only [List.length_cons, List.length_nil]; omega) (by have h9 := (Array.getElem?_eq_some_iff.1 hn3).1; omega) (fun v7 w7 o7 hg7 n7 => hK.out _ _ ?_ (fun hHeld => ?_))
        · exact sS.out _ ((hg7.block ne (Array.getElem?_eq_some_iff.1 g3).1 (fun e9 => hne3 e9.symm)).trans g3)
        have hn7 := grown_blkI o3 hg7 (show n₀ < n₀ + 1 by omega) hn3
        have B7 := B3.grown hg7 (by have h9 := (Array.getElem?_eq_some_iff.1 hn3).1; omega) (fun j e9 => by have := own_baseI o3 e9; omega)
        clear hK K
        try simp only [Act.put]
        refine wpAnyH_take (i := 19) (oi := ⟨some 4, _, _, _, _, _⟩) (v := ?_) rfl (by kernel_rfl) (by kernel_rfl) (by kernel_rfl) (fun _ _ _ h => h) (Or.inl ⟨by rfl, ?_⟩) (by assumption) ?_
        rotate_left
        · intro w hSw; (try dsimp only at hSw); go_simp <;> with_reducible rfl
        try simp only [Act.put]
        refine wpAnyH_done (by kernel_rfl) ?_ _
        have hn8 : v7 ≠ .slice none 0 0 := fun e9 => by have h9 := (n7.1 e9).1; exact hbn (n3.1 h9).1
        have o8 : w7.ownsRow (n₀ + 1) 5 1 v7 (2 + 36 * (k + 1)) ((76 :: b8 L :: (l.take (k + 1)).flatMap entB).flatMap encU) := by rw [← enc_next he2, show 2 + 36 * (k + 1) = 2 + 36 * k + e2.key.length + [b8 e2.place, b8 e2.blocks, b8 (e2.refs / 256), b8 e2.refs].length by rw [hk2]; simp only [List.length_cons, List.length_nil]; omega]; exact o7
        clear o7 o3 hg7 hg3 n7 n3 g3 gl3 hn3 B3 hHeld hst sk5 g2 oW hn5 B5
        replace o8 := hid o8
        replace hn7 := hid hn7
        replace B7 := hid B7
        replace hn8 := hid hn8
        go_wp2_with (fail)
        refine ⟨?_, ?_⟩
        · first | exact ⟨k + 1, by omega, by go_num, o8.out, hn8.out, hn7.out, B7.out⟩ | ((repeat apply Exists.intro); refine ⟨?_, rfl⟩; exact ⟨k + 1, by omega, by go_num, o8.out, hn8.out, hn7.out, B7.out⟩)
        · simp [RowKit.intOf]; omega
      · obtain rfl : k = L := by omega
        rw [show l.take k = l by rw [← hL]; exact List.take_length] at oW
        have hen : 76 :: b8 k :: l.flatMap entB = encB l := by unfold encB; rw [hL]
        have hel : (encB l).length = 2 + 36 * k := by unfold encB; rw [List.length_cons, List.length_cons, entsB_len hk, hL]; omega
        rw [hen, ← hel] at oW
        have sE := sl_of_owns (enc := encU) (fun _ _ => rfl) oW
        obtain ⟨b6, f6, c6, h61, h62, h63, h64⟩ := sE.open (by unfold encB; simp)
        rw [hel] at h61
        obtain ⟨rfl, -, rfl⟩ := Value.slice.inj h61
        rw [hel] at sE
        have cS := hid (sealed_any (encB l) _ _ _ wr sE (by omega))
        obtain ⟨OB, hOB⟩ : ∃ x, sealB (encB l) = x := ⟨_, rfl⟩
        have hO3 : OB.length = 128 := by rw [← hOB]; exact sealB_len (by omega)
        rw [hOB] at cS hres
        clear oW sE h64 hen
        go_wp2_with (fail)
        refine cS.out.mono ?_
        rintro e w9 ⟨rfl, b9⟩
        have g9 := (Kept.of_below b9 0).same _ _ hn5 (.inl rfl)
        have B9 := B5.trans (b9.mono (by have := B5.size; omega))
        clear cS hn5 B5 b9
        have hi7 : (Try.prog.info? 43).map (·.size) = some (rowU OB).size := by rw [rowU_size, hO3]; kernel_rfl
        have ht7 : w9.there n₀ 0 (rowU OB).size := there_blk g9 (by rw [rowU_size, hO3]; kernel_rfl)
        have u8 := (Upd.refl g9).setCells (rowU OB).toList (by rw [Array.length_toList, rowU_size, hO3]; kernel_rfl)
        have BZ := u8.below B9 (Nat.le_refl _)
        have u2 := u8.here
        rw [Array.toArray_toList] at u2
        clear u8 g9 B9
        replace u2 := hid u2
        replace BZ := hid BZ
        go_wp2_with (refine wpList_store_mid rfl 43 _ _ rfl n₀ 0 (rowU OB) rfl rfl ht7 hi7 (one_rowU _) ?_)
        exact outRowTmp (ty := 43) rfl u2.out rfl rfl rfl (by kernel_rfl) hi7 ⟨by rw [hres.out]; show Ending.returned (.tuple #[.agg (rowU OB), .int .i64 0]) = _; rfl, hn₀ ▸ BZ.out⟩
end Go.Proofs.Ytomgjapjeckokaa
