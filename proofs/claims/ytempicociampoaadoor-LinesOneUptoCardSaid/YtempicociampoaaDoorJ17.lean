/- The walk of measure.Breaks (printed by gen_lnh.py). The rows of found ways as they lie in their block, the paragraph beside them. -/
import Derived.Test.YtempicociampoaaDoorJ14
import Derived.Test.YtempicociampoaaDoorJ2
import Derived.Test.YtempicociampoaaDoorLnC
import Derived.Laws.MakeOwn
namespace Go.Proofs.YtempicociampoaaDoor
open Go.RowKit Go.Shelf Go.Lib

theorem item_one (x : It) : ((encIt x).toArray).all (·.oneCell') = true := all_oneCell_toArray (fun v h => by
  unfold encIt at h
  simp only [List.mem_cons, List.not_mem_nil, or_false] at h
  rcases h with rfl | rfl | rfl | rfl | rfl | rfl <;> rfl)
set_option maxRecDepth 100000 in
set_option maxHeartbeats 8000000 in
theorem MBreaks_any (l : List It) (p : Option Addr) (cap : Nat) (w : World) (hl : Sl w 6 encIt (.slice p l.length cap) l) (hle : l.length ≤ 5000) (hok : ∀ x ∈ l, x.ok) :
    Calls Tryd.prog 59 #[.slice p l.length cap] w fun e w' => ∃ v, e = .returned v ∧ w'.ownsRow w.heap.size 3 1 v (brk l).length ((brk l).flatMap encI) ∧ Below w.heap.size w w' := by
  obtain ⟨i0, hi, hz0, hz1, hz2⟩ := infoN_parts
  have hbe : brk l = brks l l.length ++ [(l.length : Int)] := rfl
  have hsB := hid (fun (W : World) (h : Below w.heap.size w W) => (Kept.of_below h 0).sl hl)
  obtain ⟨L, hL⟩ : ∃ y, l.length = y := ⟨_, rfl⟩
  rw [hL] at hsB hbe hle ⊢
  replace hL := hid hL
  clear hl
  go_enter Tryd.func59, Tryd.ntmps59
  go_wp2_with (fail)
  go_loopw [3, 8] (fun ov iv wr => ∃ k : Nat, k ≤ L ∧ iv = .int .i64 k ∧ wr.ownsRow w.heap.size 3 1 ov (brks l k).length ((brks l k).flatMap encI) ∧ Below w.heap.size w wr) (fun _ iv _ => L - (RowKit.intOf iv).toNat)
  case atStart => exact ⟨0, Nat.zero_le _, rfl, World.ownsRow_nil _ _ _ _, Below.refl _ _⟩
  case round =>
    obtain ⟨k, hk, rfl, oW, qB⟩ := hrel
    obtain ⟨pv, cv, rfl, hv1, hv2⟩ := owns_shape oW
    have hbl := brks_len l k
    by_cases hkl : k < L
    · have hkI : (k : Int) < (L : Int) := by omega
      obtain ⟨x, hx⟩ : ∃ x, l[k]? = some x := ⟨_, List.getElem?_eq_getElem (by rw [hL.out]; exact hkl)⟩
      obtain ⟨b, o, c9, e9, -, -, h9⟩ := (hsB.out _ qB).open (by rintro rfl; simp at hx)
      obtain ⟨rfl, -, rfl⟩ := Value.slice.inj e9
      have hr := h9 k x hx
      have hxo := (hok x (List.mem_of_getElem? hx)).2.2.1
      obtain ⟨ne, hne⟩ : ∃ n, wr.heap.size = n := ⟨_, rfl⟩
      have g1 := World.alloc_heap_new wr (.cells #[.int .i64 0, .int .i64 0, .int .i64 0, .int .i64 0, .int .i64 0, .string ⟨#[]⟩] 83)
      rw [hne] at g1
      have ht1 : (wr.alloc (.cells #[.int .i64 0, .int .i64 0, .int .i64 0, .int .i64 0, .int .i64 0, .string ⟨#[]⟩] 83)).there ne 0 ((encIt x).toArray).size := there_blk g1 rfl
      have u1 := (Upd.refl g1).setCells ((encIt x).toArray).toList rfl
      have o4 := upd_own2 u1 (own_ty2 ((Kept.alloc 0 wr (.cells #[.int .i64 0, .int .i64 0, .int .i64 0, .int .i64 0, .int .i64 0, .string ⟨#[]⟩] 83)).owns oW) g1 (by decide)) ((Kept.alloc 0 wr (.cells #[.int .i64 0, .int .i64 0, .int .i64 0, .int .i64 0, .int .i64 0, .string ⟨#[]⟩] 83)).owns oW)
      have B4 := u1.below (qB.alloc qB.size (.cells #[.int .i64 0, .int .i64 0, .int .i64 0, .int .i64 0, .int .i64 0, .string ⟨#[]⟩] 83)) (by have := qB.size; omega)
      have g4 := u1.here
      rw [Array.toArray_toList] at g4
      have hi6 : (Tryd.prog.info? 83).map (·.size) = some (encIt x).length := by kernel_rfl
      have hi7 : (Tryd.prog.info? 83).map (·.size) = some ((encIt x).toArray).size := by kernel_rfl
      have hat : brkAt l k = (x.kind == 3 || (x.kind == 2 && decide (0 < plain x.y) && decide (0 < k) && (match l[k - 1]? with | some y => y.kind == 1 | none => false))) := by
        unfold brkAt; rw [hx]; rfl
      have cN := hid (fun W => Plain_any x.y W hxo)
      clear u1 g1 oW qB h9 e9
      go_upto_region 5 with (first | refine wpList_load_mid rfl 83 _ rfl b (o + k * 6) rfl (encIt x) _ hr Tryd.underlying83 rfl hi6 ?_ | refine wpList_store_mid rfl 83 _ _ rfl ne 0 ((encIt x).toArray) rfl rfl ht1 hi7 (item_one _) ?_)
      try simp only [Act.put]
      obtain ⟨W4, hW4⟩ : ∃ W : World, W = (wr.alloc (.cells #[.int .i64 0, .int .i64 0, .int .i64 0, .int .i64 0, .int .i64 0, .string ⟨#[]⟩] 83)).setCells ne 0 ((encIt x).toArray).toList := ⟨_, rfl⟩
      rw [← hW4] at g4 o4 B4 ⊢
      clear hW4 ht1 hr
      have ck : W4.cell? ⟨ne, 0, none⟩ = some (.int .i64 x.kind) := cell_blk (i := 0) g4 rfl
      have cy : W4.cell? ⟨ne, 2, none⟩ = some (.int .i64 x.y) := cell_blk (i := 2) g4 rfl
      have hhit := fun h => @brks_hit l k h
      have hmiss := fun h => @brks_miss l k h
      obtain ⟨py, hpy⟩ : ∃ y, plain x.y = y := ⟨_, rfl⟩
      obtain ⟨kd, hkd⟩ : ∃ y, x.kind = y := ⟨_, rfl⟩
      obtain ⟨mm, hmm⟩ : ∃ y, (match l[k - 1]? with | some y => y.kind == 1 | none => false) = y := ⟨_, rfl⟩
      rw [hpy] at cN
      rw [hpy, hkd, hmm] at hat
      rw [hkd] at ck
      clear hpy hkd g4
      by_cases c3 : kd = 3
      · subst c3
        have hq := hhit (by rw [hat]; simp)
        clear hat hhit hmiss hmm
        replace hq := hid hq
        go_wp2_with (at_builtin; go_must (refine wpList_append_sl rfl _ _ 44 rfl w.heap.size 3 i0 (.int .i64 0) 1 8 Tryd.underlying44 hi hz0 hz1 hz2 rfl (by decide) _ _ _ rfl ((Kept.alloc 0 W4 _).owns o4) encI _ [(k : Int)] rfl (sl_i1 (World.alloc_heap_new W4 _)) (encI_enc _) (by unfold maxLen; simp only [List.length_singleton]; omega) (by simp only [List.length_singleton]; omega) (by have := B4.size; rw [World.size_alloc]; omega) ?_; intro v9 w9 o9 hg9 n9))
        have B9 := (B4.alloc B4.size (.cells #[.int .i64 (k : Int)] 3)).grown hg9 (by have := B4.size; rw [World.size_alloc]; omega) (fun j e9 => own_base2 ((Kept.alloc 0 W4 (.cells #[.int .i64 (k : Int)] 3)).owns o4) e9)
        have o10 : w9.ownsRow w.heap.size 3 1 v9 (brks l (k + 1)).length ((brks l (k + 1)).flatMap encI) := by rw [hq.out, List.length_append, List.flatMap_append]; exact o9
        replace o10 := hid o10
        replace B9 := hid B9
        refine ⟨?_, ?_⟩
        · first | exact ⟨k + 1, by omega, by go_num, o10.out, B9.out⟩ | ((repeat apply Exists.intro); refine ⟨?_, rfl⟩; exact ⟨k + 1, by omega, by go_num, o10.out, B9.out⟩)
        · simp [RowKit.intOf]; omega
      · have c3b : (kd == 3) = false := by simpa using c3
        by_cases c2 : kd = 2
        · subst c2
          by_cases cp : 0 < py
          · by_cases c0 : 0 < k
            · have k0I : (0 : Int) < (k : Int) := by omega
              obtain ⟨j, hj⟩ : ∃ j, k - 1 = j := ⟨_, rfl⟩
              have hkw : IntKind.i64.wrap ((k : Int) - 1) = (j : Int) := by rw [IntKind.wrap_i64]; omega
              have hjL : (j : Int) < (L : Int) := by omega
              obtain ⟨z, hz⟩ : ∃ z, l[j]? = some z := ⟨_, List.getElem?_eq_getElem (by rw [hL.out]; omega)⟩
              obtain ⟨b', o', c', e', -, -, h'⟩ := (hsB.out _ B4).open (by rintro rfl; simp at hz)
              obtain ⟨h1', -, -⟩ := Value.slice.inj e'
              obtain ⟨rfl, rfl, -⟩ := Addr.mk.inj (Option.some.inj h1')
              have cz := (item_cells (h' j z hz)).1
              have hm2 : (z.kind == 1) = mm := by rw [← hmm, hj, hz]
              clear h' e' h1' hmm hz
              generalize z.kind = zk at *
              by_cases c1 : zk = 1
              · subst c1
                have hq := hhit (by rw [hat, ← hm2]; simp [cp, c0])
                clear hat hhit hmiss hm2
                replace hj := hid hj
                replace hq := hid hq
                go_wp2_with (fail)
                refine (cN.out _).mono ?_
                rintro e W4' ⟨rfl, rfl⟩
                go_wp2_with (at_builtin; go_must (refine wpList_append_sl rfl _ _ 44 rfl w.heap.size 3 i0 (.int .i64 0) 1 8 Tryd.underlying44 hi hz0 hz1 hz2 rfl (by decide) _ _ _ rfl ((Kept.alloc 0 W4 _).owns o4) encI _ [(k : Int)] rfl (sl_i1 (World.alloc_heap_new W4 _)) (encI_enc _) (by unfold maxLen; simp only [List.length_singleton]; omega) (by simp only [List.length_singleton]; omega) (by have := B4.size; rw [World.size_alloc]; omega) ?_; intro v9 w9 o9 hg9 n9))
                have B9 := (B4.alloc B4.size (.cells #[.int .i64 (k : Int)] 3)).grown hg9 (by have := B4.size; rw [World.size_alloc]; omega) (fun j e9 => own_base2 ((Kept.alloc 0 W4 (.cells #[.int .i64 (k : Int)] 3)).owns o4) e9)
                have o10 : w9.ownsRow w.heap.size 3 1 v9 (brks l (k + 1)).length ((brks l (k + 1)).flatMap encI) := by rw [hq.out, List.length_append, List.flatMap_append]; exact o9
                replace o10 := hid o10
                replace B9 := hid B9
                refine ⟨?_, ?_⟩
                · first | exact ⟨k + 1, by omega, by go_num, o10.out, B9.out⟩ | ((repeat apply Exists.intro); refine ⟨?_, rfl⟩; exact ⟨k + 1, by omega, by go_num, o10.out, B9.out⟩)
                · simp [RowKit.intOf]; omega
              · have c1b : (zk == 1) = false := by simpa using c1
                have hq := hmiss (by rw [hat, ← hm2, c1b]; simp)
                clear hat hhit hmiss hm2
                replace hj := hid hj
                have o10 : W4.ownsRow w.heap.size 3 1 (.slice pv (brks l k).length cv) (brks l (k + 1)).length ((brks l (k + 1)).flatMap encI) := by rw [hq]; exact o4
                replace o10 := hid o10
                go_wp2_with (fail)
                refine (cN.out _).mono ?_
                rintro e W4' ⟨rfl, rfl⟩
                go_wp2_with (fail)
                refine ⟨?_, ?_⟩
                · first | exact ⟨k + 1, by omega, by go_num, o10.out, B4⟩ | ((repeat apply Exists.intro); refine ⟨?_, rfl⟩; exact ⟨k + 1, by omega, by go_num, o10.out, B4⟩)
                · simp [RowKit.intOf]; omega
            · have k0I : ¬ (0 : Int) < (k : Int) := by omega
              have hq := hmiss (by rw [hat, decide_eq_false c0]; simp)
              clear hat hhit hmiss hmm
              have o10 : W4.ownsRow w.heap.size 3 1 (.slice pv (brks l k).length cv) (brks l (k + 1)).length ((brks l (k + 1)).flatMap encI) := by rw [hq]; exact o4
              replace o10 := hid o10
              go_wp2_with (fail)
              refine (cN.out _).mono ?_
              rintro e W4' ⟨rfl, rfl⟩
              go_wp2_with (fail)
              refine ⟨?_, ?_⟩
              · first | exact ⟨k + 1, by omega, by go_num, o10.out, B4⟩ | ((repeat apply Exists.intro); refine ⟨?_, rfl⟩; exact ⟨k + 1, by omega, by go_num, o10.out, B4⟩)
              · simp [RowKit.intOf]; omega
          · have hq := hmiss (by rw [hat, decide_eq_false cp]; simp)
            clear hat hhit hmiss hmm
            have o10 : W4.ownsRow w.heap.size 3 1 (.slice pv (brks l k).length cv) (brks l (k + 1)).length ((brks l (k + 1)).flatMap encI) := by rw [hq]; exact o4
            replace o10 := hid o10
            go_wp2_with (fail)
            refine (cN.out _).mono ?_
            rintro e W4' ⟨rfl, rfl⟩
            go_wp2_with (fail)
            refine ⟨?_, ?_⟩
            · first | exact ⟨k + 1, by omega, by go_num, o10.out, B4⟩ | ((repeat apply Exists.intro); refine ⟨?_, rfl⟩; exact ⟨k + 1, by omega, by go_num, o10.out, B4⟩)
            · simp [RowKit.intOf]; omega
        · have c2b : (kd == 2) = false := by simpa using c2
          have hq := hmiss (by rw [hat, c3b, c2b]; simp)
          clear hat hhit hmiss hmm
          have o10 : W4.ownsRow w.heap.size 3 1 (.slice pv (brks l k).length cv) (brks l (k + 1)).length ((brks l (k + 1)).flatMap encI) := by rw [hq]; exact o4
          replace o10 := hid o10
          go_wp2_with (fail)
          refine ⟨?_, ?_⟩
          · first | exact ⟨k + 1, by omega, by go_num, o10.out, B4⟩ | ((repeat apply Exists.intro); refine ⟨?_, rfl⟩; exact ⟨k + 1, by omega, by go_num, o10.out, B4⟩)
          · simp [RowKit.intOf]; omega
    · obtain rfl : k = L := by omega
      go_wp2_with (at_builtin; go_must (refine wpList_append_sl rfl _ _ 44 rfl w.heap.size 3 i0 (.int .i64 0) 1 8 Tryd.underlying44 hi hz0 hz1 hz2 rfl (by decide) _ _ _ rfl ((Kept.alloc 0 wr _).owns oW) encI _ [(k : Int)] rfl (sl_i1 (World.alloc_heap_new wr _)) (encI_enc _) (by unfold maxLen; simp only [List.length_singleton]; omega) (by simp only [List.length_singleton]; omega) (by have := qB.size; rw [World.size_alloc]; omega) ?_; intro v9 w9 o9 hg9 n9))
      go_ret
      exact ⟨v9, rfl, by rw [hbe, List.length_append, List.flatMap_append]; exact o9, (qB.alloc qB.size (.cells #[.int .i64 (k : Int)] 3)).grown hg9 (by have := qB.size; rw [World.size_alloc]; omega) (fun j e9 => own_base2 ((Kept.alloc 0 wr (.cells #[.int .i64 (k : Int)] 3)).owns oW) e9)⟩
end Go.Proofs.YtempicociampoaaDoor
namespace Go.Proofs.YtempicociampoaaDoor
open Go.RowKit Go.Shelf Go.Lib

theorem enc4_len (r : Value × Int × Int × Bool) : (enc4 r).length = 4 := rfl
theorem sl_off {α : Type} {W : World} {K : Nat} {enc : α → List Value} {v : Value} {l : List α} {G o : Nat} {vs : List Value} (h : Sl W K enc v l) (hb : ∀ a n m, v = .slice (some a) n m → a.block ≠ G) : Sl (W.setCells G o vs) K enc v l := by
  rcases h with ⟨rfl, rfl⟩ | ⟨a, cap, rfl, h1, h2, h3, h4⟩
  · exact .inl ⟨rfl, rfl⟩
  · refine .inr ⟨a, cap, rfl, h1, h2, h3, fun i x hi j u hj => ?_⟩
    have h9 := h4 i x hi j u hj
    unfold World.cell? at h9 ⊢
    rw [setCells_off _ _ _ _ (hb _ _ _ rfl)]
    exact h9
theorem sl_cell1 {W : World} {b n c : Nat} {l : List Int} (h : Sl W 1 encI (.slice (some ⟨b, 0, none⟩) n c) l) {j : Nat} {x : Int} (hx : l[j]? = some x) : W.cell? ⟨b, j, none⟩ = some (.int .i64 x) := by
  obtain ⟨b', o, c', e, -, -, h9⟩ := h.open (by rintro rfl; simp at hx)
  obtain ⟨h1, -, -⟩ := Value.slice.inj e
  obtain ⟨rfl, rfl, -⟩ := Addr.mk.inj (Option.some.inj h1)
  have := rangeAt_one (h9 j x hx)
  rwa [Nat.mul_one, Nat.zero_add] at this
theorem RowOk.off {W : World} {G : Nat} {r : Value × Int × Int × Bool} {c : Option Wy} {o : Nat} {vs : List Value} (h : RowOk W G r c) : RowOk (W.setCells G o vs) G r c := by
  cases c with
  | none => exact h
  | some w => exact ⟨h.1, sl_off h.2.1 fun a n m e => by have := h.2.2 a n m e; omega, h.2.2⟩
theorem RowOk.shape {W : World} {G : Nat} {r : Value × Int × Int × Bool} {c : Option Wy} (h : RowOk W G r c) : ∃ q n m a b d, r = (.slice q n m, a, b, d) := by
  obtain ⟨r1, a, b, d⟩ := r
  cases c with
  | none => cases h; exact ⟨_, _, _, _, _, _, rfl⟩
  | some w =>
    obtain ⟨q, m, e, -⟩ := h.2.1.shape
    dsimp only at e
    subst e
    exact ⟨_, _, _, _, _, _, rfl⟩
/-- the rows of found ways -/
structure Rows (W : World) (G N : Nat) (rows : List (Value × Int × Int × Bool)) (f : Nat → Option Wy) : Prop where
  own : W.ownsRow G 97 4 (.slice (some ⟨G, 0, none⟩) N N) N (rows.flatMap enc4)
  len : rows.length = N
  row : ∀ j r, rows[j]? = some r → RowOk W G r (f j)
section
variable {W W' : World} {G N : Nat} {rows : List (Value × Int × Int × Bool)} {f f' : Nat → Option Wy}
theorem Rows.below (h : Rows W G N rows f) (hb : Below W.heap.size W W') : Rows W' G N rows f := ⟨(Kept.of_below hb 0).owns h.own, h.len, fun j r hj => (h.row j r hj).kept hb⟩
theorem Rows.congr (h : Rows W G N rows f) (hf : ∀ j, f' j = f j) : Rows W G N rows f' := ⟨h.own, h.len, fun j r hj => by rw [hf]; exact h.row j r hj⟩
theorem Rows.blk (h : Rows W G N rows f) : ∃ cs, W.heap[G]? = some (.cells cs 97 (0, 0)) ∧ cs.size = N * 4 := by
  rcases h.own.2 with ⟨h', _⟩ | ⟨g, cap, cur, h', hb, hg, hnc, hcm, hcs, -⟩
  · simp at h'
  · simp only [Value.slice.injEq, Option.some.injEq, Addr.mk.injEq, and_true, true_and] at h'
    obtain ⟨rfl, rfl⟩ := h'
    exact ⟨cur, hg, hcs⟩
theorem Rows.range (h : Rows W G N rows f) {i : Nat} {r : Value × Int × Int × Bool} (hr : rows[i]? = some r) : W.rangeAt G (i * 4) (enc4 r) := by
  have h1 := h.own
  rw [← h.len] at h1
  have h2 := sl_of_owns (fun x _ => enc4_len x) h1
  obtain ⟨b', o, c', e, -, -, h9⟩ := h2.open (by rintro rfl; simp at hr)
  obtain ⟨h3, -, -⟩ := Value.slice.inj e
  obtain ⟨rfl, rfl, -⟩ := Addr.mk.inj (Option.some.inj h3)
  have := h9 i r hr
  rwa [Nat.zero_add] at this
theorem Rows.set (h : Rows W G N rows f) {i : Nat} (hi : i < N) {x : Wy} {v : Value} (hx : Sl W 1 encI v x.br) (hv : ∀ a n m, v = .slice (some a) n m → G < a.block) (hf : f' i = some x) (hf2 : ∀ j, j ≠ i → f' j = f j) :
    Rows (W.setCells G (i * 4) (enc4 (v, x.tot, x.ov, true))) G N (rows.set i (v, x.tot, x.ov, true)) f' := by
  refine ⟨own_row enc4_len h.own (by rw [h.len]; exact hi) _, by rw [List.length_set, h.len], fun j r hj => ?_⟩
  by_cases e : j = i
  · subst e
    rw [List.getElem?_set_self (by rw [h.len]; exact hi)] at hj
    obtain rfl := Option.some.inj hj
    rw [hf]
    exact ⟨rfl, sl_off hx fun a n m e => by have := hv a n m e; omega, hv⟩
  · rw [List.getElem?_set_ne (by omega)] at hj
    rw [hf2 j e]
    exact (h.row j r hj).off
theorem Rows.get (h : Rows W G N rows f) {i : Nat} (hi : i < N) : ∃ r, rows[i]? = some r ∧ RowOk W G r (f i) := ⟨rows[i]'(by rw [h.len]; exact hi), List.getElem?_eq_getElem _, h.row i _ (List.getElem?_eq_getElem _)⟩
end
def zeroR : Value × Int × Int × Bool := (.slice none 0 0, 0, 0, false)
theorem made4 : ∀ N : Nat, Go.madeCells #[.slice none 0 0, .int .i64 0, .int .i64 0, .bool false] (N * 4) = ((List.replicate N zeroR).flatMap enc4).toArray := by
  intro N
  have h : ∀ N : Nat, (List.range (N * 4)).map (fun i => (#[Value.slice none 0 0, .int .i64 0, .int .i64 0, .bool false] : Array Value)[i % 4]!) = (List.replicate N zeroR).flatMap enc4 := by
    intro N
    induction N with
    | zero => rfl
    | succ N ih =>
      rw [show (N + 1) * 4 = N * 4 + 1 + 1 + 1 + 1 by omega, List.range_succ, List.range_succ, List.range_succ, List.range_succ]
      simp only [List.map_append, ih]
      rw [show N + 1 = N + 1 from rfl, List.replicate_succ', List.flatMap_append]
      simp only [List.append_assoc, List.map_cons, List.map_nil]
      rw [show N * 4 % 4 = 0 by omega, show (N * 4 + 1) % 4 = 1 by omega, show (N * 4 + 1 + 1) % 4 = 2 by omega, show (N * 4 + 1 + 1 + 1) % 4 = 3 by omega]
      rfl
  apply Array.toList_inj.1
  unfold Go.madeCells
  rw [Array.toList_map, Array.toList_range, ← h N]
  rfl
/-- the first rows: a way of nothing to the beginning, none else -/
theorem rows_first {W : World} {G M : Nat} (hg : W.heap[G]? = some (.cells ((List.replicate (M + 2) zeroR).flatMap enc4).toArray 97 (0, 0))) (hM : M + 2 ≤ maxLen) {l : List It} {wd tol : Int} {all : Bool} {pl : List Int} :
    Rows (W.setCell ⟨G, 3, none⟩ (.bool true)) G (M + 2) ((.slice none 0 0, 0, 0, true) :: List.replicate (M + 1) zeroR) (curF l wd tol all pl 0 0) := by
  have hlen : ((List.replicate (M + 2) zeroR).flatMap enc4).length = (M + 2) * 4 := by
    rw [List.length_flatMap]; simp [enc4_len]
  have ho : W.ownsRow G 97 4 (.slice (some ⟨G, 0, none⟩) (M + 2) (M + 2)) (M + 2) ((List.replicate (M + 2) zeroR).flatMap enc4) := by
    refine ⟨by simpa using hlen, .inr ⟨G, M + 2, _, rfl, Nat.le_refl _, hg, Nat.le_refl _, hM, by simpa using hlen, ?_⟩⟩
    rw [← hlen]; exact List.take_length
  refine ⟨?_, by simp, fun j r hj => ?_⟩
  · have h9 := (ho.stored 3 (.bool true)).1
    exact h9
  · rw [curF_zero]
    cases j with
    | zero =>
      obtain rfl := Option.some.inj hj
      exact ⟨rfl, .inl ⟨rfl, rfl⟩, fun a n m e => by cases e⟩
    | succ j =>
      rw [if_neg (by omega)]
      rw [List.getElem?_cons_succ] at hj
      exact List.eq_of_mem_replicate (List.mem_of_getElem? hj)
/-- what stands beside the rows -/
structure Fx (n₀ : Nat) (pb pc : Nat) (PL : List Int) (cp co : Array Value) (w W : World) : Prop where
  below : Below n₀ w W
  par : W.heap[n₀]? = some (.cells cp 93 (0, 0))
  out : W.heap[n₀ + 1]? = some (.cells co 97 (0, 0))
  pl : Sl W 1 encI (.slice (some ⟨pb, 0, none⟩) PL.length pc) PL
theorem Fx.mono {n₀ pb pc : Nat} {PL : List Int} {cp co : Array Value} {w W W' : World} (h : Fx n₀ pb pc PL cp co w W) (hb : Below W.heap.size W W') : Fx n₀ pb pc PL cp co w W' :=
  ⟨h.below.trans (hb.mono (Nat.le_of_lt (Array.getElem?_eq_some_iff.1 h.par).1)), (Kept.of_below hb 0).same _ _ h.par (.inl rfl), (Kept.of_below hb 0).same _ _ h.out (.inl rfl), (Kept.of_below hb 0).sl h.pl⟩
theorem Fx.set {n₀ pb pc G o : Nat} {PL : List Int} {cp co : Array Value} {w W : World} {vs : List Value} (h : Fx n₀ pb pc PL cp co w W) (hG : n₀ + 1 < G) (hp : pb ≠ G) : Fx n₀ pb pc PL cp co w (W.setCells G o vs) :=
  ⟨below_setG (by omega) _ _ _ h.below, (setCells_off _ _ _ _ (by omega)).trans h.par, (setCells_off _ _ _ _ (by omega)).trans h.out, sl_off h.pl fun a n m e => by cases e; exact hp⟩
theorem curF_last (l : List It) (wd tol : Int) (all : Bool) (pl : List Int) {k : Nat} (hk : pl.length = k + 1) : curF l wd tol all pl k 0 k = bestW l wd tol all pl := by
  rw [curF_low (Nat.le_refl _)]
  unfold bestW
  have hl := found_len l wd tol all pl k
  rw [hk, Nat.add_sub_cancel, List.getLast?_eq_getElem?, hl, Nat.add_sub_cancel, List.getD_eq_getElem?_getD]
theorem own_lit1 {W : World} {g base : Nat} {x : Int} (h : W.heap[g]? = some (.cells #[.int .i64 x] 3 (0, 0))) (hb : base ≤ g) : W.ownsRow base 3 1 (.slice (some ⟨g, 0, none⟩) 1 1) 1 [.int .i64 x] :=
  ⟨rfl, .inr ⟨g, 1, _, rfl, hb, h, Nat.le_refl _, by decide, rfl, rfl⟩⟩
end Go.Proofs.YtempicociampoaaDoor
