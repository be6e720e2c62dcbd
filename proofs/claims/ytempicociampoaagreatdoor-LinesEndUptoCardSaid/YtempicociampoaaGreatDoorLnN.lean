/- The walks of lines.set and of its iterator (printed by gen_lnn.py). -/
import Derived.Test.YtempicociampoaaGreatDoorJ0
import Derived.Test.YtempicociampoaaGreatDoorJ22
import Derived.Test.YtempicociampoaaGreatDoorLnJ
import Derived.Test.YtempicociampoaaGreatDoorSetJ
import Derived.Test.YtempicociampoaaGreatDoorJ12
import Derived.Test.YtempicociampoaaGreatDoorJ8
namespace Go.Proofs.YtempicociampoaaGreatDoor
open Go.RowKit Go.Shelf Go.Lib
attribute [local go_sem] Oper.semAt_some

theorem line_one (k : Int) (x y z : Bool) (p : Option Addr) (m c : Nat) : (#[.int .i64 k, .bool x, .bool y, .bool z, .slice p m c] : Array Value).all (·.oneCell') = true := all_oneCell_toArray (cs := [.int .i64 k, .bool x, .bool y, .bool z, .slice p m c]) (fun v h => by
 simp only [List.mem_cons, List.not_mem_nil, or_false] at h
 rcases h with rfl | rfl | rfl | rfl | rfl <;> rfl)
theorem sl_keepsM {M B : Nat} {W W' : World} {v : Value} {l : List Int} (h : Sl W 1 encI v l) (hv : ∀ (a : Addr) (n m : Nat), v = .slice (some a) n m → l ≠ [] → B ≤ a.block ∧ a.block < M) (hk : KeepsM M B W W') : Sl W' 1 encI v l := by
 rcases h with ⟨rfl, rfl⟩ | ⟨a, cap, rfl, h3, h4, h5, h6⟩
 ·exact .inl ⟨rfl, rfl⟩
 ·refine .inr ⟨a, cap, rfl, h3, h4, h5, fun i x hx j u hj => ?_⟩
  have h9 := h6 i x hx j u hj
  obtain ⟨h7, h8⟩ := hv a _ _ rfl (by rintro rfl; simp at hx)
  unfold World.cell? at h9 ⊢
  dsimp only at h9 ⊢
  cases hh : W.heap[a.block]? with
  | none => rw [hh] at h9; cases h9
  | some o => rw [hk.same _ _ h7 hh (.inr h8)]; rw [hh] at h9; exact h9
theorem best_at (l : List It) (wd tol : Int) {i : Nat} (hi : i < (bestS l wd tol).br.length) : ∃ t : Nat, (bestS l wd tol).br.getD i 0 = t ∧ t ≤ l.length ∧ w64 (lastI (-1) ((bestS l wd tol).br.take i)) ∧ l.length ≤ 600 := by
 by_cases h : 600 < l.length ∨ ¬ firstL l (-1) < l.length
 ·rw [best_none wd tol h] at hi; simp at hi
 ·obtain ⟨al, his, -⟩ := best_is (l := l) wd tol (by omega) (by omega)
  obtain ⟨t, h1, h2, -⟩ := way_brk his.leg his.mem hi
  refine ⟨t, h1, h2, ?_, by omega⟩
  rcases way_from his.leg his.mem hi with h9 | ⟨u, h9, x, hx, -⟩
  ·rw [h9]; constructor <;> omega
  ·have := (List.getElem?_eq_some_iff.1 hx).1
   rw [h9]; constructor <;> omega
/-- what the iterator of lines reads -/
structure SetR (l : List It) (p : Option Addr) (L cap : Nat) (kind a b c d e : Int) (pl ps pk : Nat) (W : World) : Prop where
 items : Sl W 6 encIt (.slice p L cap) l
 lb : W.heap[pl]? = some (.cells #[.slice p L cap] 40 (0, 0))
 sb : W.heap[ps]? = some (.cells #[.int .i64 a, .int .i64 b, .int .i64 c, .int .i64 d, .int .i64 e] 26 (0, 0))
 kb : W.heap[pk]? = some (.cells #[.int .i64 kind] 3 (0, 0))
section
variable {l : List It} {p : Option Addr} {L cap : Nat} {kind a b c d e : Int} {pl ps pk : Nat}
theorem SetR.kept {B : Nat} {W W' : World} (h : SetR l p L cap kind a b c d e pl ps pk W) (hk : Kept B W W') : SetR l p L cap kind a b c d e pl ps pk W' :=
 ⟨hk.sl h.items, hk.same _ _ h.lb (.inl rfl), hk.same _ _ h.sb (.inl rfl), hk.same _ _ h.kb (.inl rfl)⟩
set_option maxRecDepth 100000 in
set_option maxHeartbeats 8000000 in
theorem set1_seq (hL : l.length = L) (ha64 : w64 a) (hok : ∀ x ∈ l, x.ok) :
  SeqM Tryz.prog 47 #[.pointer (some ⟨pl, 0, none⟩), .pointer (some ⟨ps, 0, none⟩), .pointer (some ⟨pk, 0, none⟩)] lnEnc (SetR l p L cap kind a b c d e pl ps pk)
   (LnAdm (linesL l a (cutI a 0 10000) (cutI c 0 10000) kind (-1) true (bestS l (cutI a 0 10000) (cutI c 0 10000)).br)) (fun xs _ => xs.map (fun x => x.2) = linesL l a (cutI a 0 10000) (cutI c 0 10000) kind (-1) true (bestS l (cutI a 0 10000) (cutI c 0 10000)).br) (fun _ _ => True) := by
 intro L0 J0 J Jx W hJ0 hJ hJx hM hY h0 hR0
 have cB := hid (Best_any (l := l) (p := p) (cap := cap) a b c d e W (by have := hR0.items; rwa [← hL] at this) hok)
 replace hL := hid hL
 rw [hL.out] at cB
 obtain ⟨wd, hwd⟩ : ∃ y, cutI a 0 10000 = y := ⟨_, rfl⟩
 obtain ⟨tol, htol⟩ : ∃ y, cutI c 0 10000 = y := ⟨_, rfl⟩
 rw [hwd, htol] at cB hY ⊢
 replace hwd := hid hwd
 replace htol := hid htol
 have hbd := best_bd l wd tol
 obtain ⟨⟨br, tot, ovr⟩, hBS⟩ : ∃ y, bestS l wd tol = y := ⟨_, rfl⟩
 have hBr := hid (show (bestS l wd tol).br = br by rw [hBS])
 rw [hBS] at cB hY hbd ⊢
 clear hBS
 dsimp only at hY hbd ⊢
 obtain ⟨N, hN⟩ : ∃ y, br.length = y := ⟨_, rfl⟩
 have hN6 : N ≤ 601 := by have := hbd.1; dsimp only at this; omega
 clear hbd
 have l0 := cell_blk hR0.lb (i := 0) rfl
 have s0 := cell_blk hR0.sb (i := 0) rfl
 have s1 := cell_blk hR0.sb (i := 1) rfl
 have s2 := cell_blk hR0.sb (i := 2) rfl
 have s3 := cell_blk hR0.sb (i := 3) rfl
 have s4 := cell_blk hR0.sb (i := 4) rfl
 refine calls_of_wpIn Tryz.func47 rfl ?_
 simp only [Tryz.ntmps47, List.size_toArray, List.length_cons, List.length_nil, Nat.reduceAdd, Nat.reduceSub, Array.replicate_succ, Array.replicate_zero, List.push_toArray, List.append_toArray, List.nil_append, List.cons_append]
 replace hN := hid hN
 gi_wp2_with (fail)
 refine ⟨trivial, rfl, (callsIn_wide.2 cB.out).mono ?_⟩
 rintro e' w1 ⟨⟨v, rfl, sv, vlo⟩, B1⟩
 obtain ⟨q, qc, rfl, -⟩ := sv.shape
 rw [hN.out] at sv vlo ⊢
 rw [show wayV (.slice q N qc) ⟨br, tot, ovr⟩ = #[.slice q N qc, .int .i64 tot, .int .i64 ovr] from rfl]
 clear s0 s1 s2 s3 s4 l0 cB
 obtain ⟨nW, hnWd⟩ : ∃ n, w1.heap.size = n := ⟨_, rfl⟩
 have gW1 := World.alloc_heap_new w1 (.cells #[.slice q N qc, .int .i64 tot, .int .i64 ovr] 52)
 have BW := B1.alloc B1.size (.cells #[.slice q N qc, .int .i64 tot, .int .i64 ovr] 52)
 have svW := (Kept.alloc 0 w1 (.cells #[.slice q N qc, .int .i64 tot, .int .i64 ovr] 52)).sl sv
 have zW : (w1.alloc (.cells #[.slice q N qc, .int .i64 tot, .int .i64 ovr] 52)).heap.size = nW + 1 := by rw [World.size_alloc, hnWd]
 have hnW : W.heap.size ≤ nW := by rw [← hnWd]; exact B1.size
 have hq1 : ∀ (a' : Addr) (n m : Nat), Value.slice q N qc = .slice (some a') n m → br ≠ [] → W.heap.size ≤ a'.block ∧ a'.block < nW + 1 := fun a' n m e9 hne => by
  refine ⟨vlo a' n m e9, ?_⟩
  obtain ⟨b9, o9, c9, e8, -, -, h8⟩ := sv.open hne
  rw [e9] at e8
  cases e8
  have := cell_lt (h8 0 _ (List.getElem?_eq_getElem (List.length_pos_iff.2 hne)) 0 _ rfl)
  dsimp only at this ⊢
  omega
 rw [hnWd] at gW1
 gi_upto_region 2 with (fail)
 have z0 : (w1.alloc (.cells #[.slice q N qc, .int .i64 tot, .int .i64 ovr] 52)).cell? ⟨nW, 0, none⟩ = some (.slice q N qc) := cell_blk (i := 0) gW1 rfl
 obtain ⟨W2, hW2⟩ : ∃ V : World, V = w1.alloc (.cells #[.slice q N qc, .int .i64 tot, .int .i64 ovr] 52) := ⟨_, rfl⟩
 rw [← hW2] at gW1 BW svW zW z0 ⊢
 have hR2 := hR0.kept (Kept.of_below BW 0)
 have hJ1 := hM (nW + 1) W2 (hJ0 _ _ (Kept.of_below BW _) h0) (by omega) (by omega)
 clear hW2 hJ0 h0 hM hR0 B1 sv vlo hnWd
 have hM1 : W.heap.size ≤ nW + 1 := by omega
 have hnM : nW < nW + 1 := by omega
 obtain ⟨M, hMd⟩ : ∃ M, nW + 1 = M := ⟨_, rfl⟩
 rw [hMd] at hJ1 hM1 hnM hq1
 clear hMd zW BW
 gi_wp2_with (fail)
 gi_loopw [5, 17] (fun fv iv wr => ∃ (k : Nat) (P : List (Sv × Ln)), k ≤ N ∧ fv = .int .i64 (lastI (-1) (br.take k)) ∧ iv = .int .i64 (k : Int) ∧ P.map (fun x => x.2) = (List.range k).map (lineAt l a wd tol kind br) ∧ J M P wr ∧ SetR l p L cap kind a b c d e pl ps pk wr ∧ wr.heap[nW]? = some (.cells #[.slice q N qc, .int .i64 tot, .int .i64 ovr] 52 (0, 0)) ∧ Sl wr 1 encI (.slice q N qc) br) (fun _ iv _ => N - (RowKit.intOf iv).toNat)
 case atStart => exact ⟨0, [], Nat.zero_le _, rfl, rfl, rfl, hJ1, hR2, gW1, svW⟩
 case round =>
  clear hJ1 hR2 gW1 svW z0
  obtain ⟨k, P, hk, hfv, rfl, hP, hJs, hRr, gW, sB⟩ := hrel
  have hqM := hq1
  by_cases hkl : k < N
  ·skip
   have hkI : (k : Int) < (N : Int) := by omega
   obtain ⟨t, ht, htl, hn64, hle6⟩ := best_at l wd tol (i := k) (by rw [hBr.out, hN.out]; exact hkl)
   rw [hBr.out] at ht hn64
   have hle : l.length ≤ 5000 := by omega
   obtain ⟨n, hn⟩ : ∃ n, lastI (-1) (br.take k) = n := ⟨_, rfl⟩
   rw [hn] at hn64 hfv
   subst hfv
   have hbk : br[k]? = some (t : Int) := by rw [← ht, List.getD_eq_getElem?_getD, List.getElem?_eq_getElem (by rw [hN.out]; exact hkl)]; rfl
   obtain ⟨qb, qo, qc', e9, -, -, h9⟩ := sB.open (by rintro rfl; simp at hbk)
   obtain ⟨rfl, -, rfl⟩ := Value.slice.inj e9
   have hck := rangeAt_one (h9 k _ hbk)
   rw [Nat.mul_one] at hck
   have hlk := hid (show lastI (-1) (br.take (k + 1)) = (t : Int) by rw [lastI_take _ _ _ (by rw [hN.out]; exact hkl), ht])
   obtain ⟨la, hla⟩ : ∃ x, ((k : Int) == (N : Int) - 1) = x := ⟨_, rfl⟩
   obtain ⟨fi, hfi⟩ : ∃ x, ((k : Int) == 0) = x := ⟨_, rfl⟩
   have hNw : IntKind.i64.wrap ((N : Int) - 1) = (N : Int) - 1 := by rw [IntKind.wrap_i64]; omega
   obtain ⟨ov, hov⟩ : ∃ x, (liS l wd tol n t).over = x := ⟨_, rfl⟩
   have hlas : decide (k + 1 = br.length) = la := by
    rw [← hla, hN.out]
    by_cases h : k + 1 = N
    ·rw [decide_eq_true h]; symm; simp; omega
    ·rw [decide_eq_false h]; symm; simp; omega
   have hfis : decide (k = 0) = fi := by
    rw [← hfi]
    by_cases h : k = 0
    ·subst h; rfl
    ·rw [decide_eq_false h]; symm; simpa using h
   have hln := hid (show lineAt l a wd tol kind br k = ⟨kind, fi, la, ov, setL l n t a la⟩ by
    unfold lineAt
    rw [hn, ht, hfis, hlas, Int.toNat_natCast, hov])
   have hps := hid (show (lineAt l a wd tol kind br k).ps = setL l n t a la by rw [hln.out])
   have hpre := hid (show (List.range k).map (lineAt l a wd tol kind br) ++ [lineAt l a wd tol kind br k] <+: linesL l a wd tol kind (-1) true br by
    rw [linesL_eq, hN.out, show N = k + 1 + (N - (k + 1)) by omega, List.range_add, List.range_succ, List.map_append, List.map_append]
    exact List.prefix_append _ _)
   have y0 : wr.cell? ⟨nW, 0, none⟩ = some (.slice (some ⟨qb, qo, none⟩) N qc) := cell_blk (i := 0) gW rfl
   clear h9 e9 hbk hlas hfis hn ht
   gi_upto_region 6 with (fail)
   obtain ⟨W1, hW1⟩ : ∃ V : World, V = wr := ⟨_, rfl⟩
   subst hW1
   have bd : Below W1.heap.size W1 W1.drew := (Below.refl _ W1).drewN 1
   have hst : (fun V => Below W1.drew.heap.size W1.drew V) W1.drew := Below.refl _ _
   have gW5 := (Kept.of_below bd 0).same _ _ gW (.inl rfl)
   have sB5 := (Kept.of_below bd 0).sl sB
   have hRs := hid (fun V (h : Below W1.drew.heap.size W1.drew V) => (hRr.kept (Kept.of_below bd 0)).kept (Kept.of_below h 0))
   have hJ5 := hid (fun V (h : Below W1.drew.heap.size W1.drew V) => hJ M P _ _ (Kept.of_below h _) (hJ M P _ _ (Kept.of_below bd _) hJs))
   have kK := hid (fun V (h : Below W1.drew.heap.size W1.drew V) => cell_blk (i := 0) (hRs.out V h).kb rfl)
   have kL := hid (fun V (h : Below W1.drew.heap.size W1.drew V) => cell_blk (i := 0) (hRs.out V h).lb rfl)
   have kA := hid (fun V (h : Below W1.drew.heap.size W1.drew V) => cell_blk (i := 0) (hRs.out V h).sb rfl)
   have kS := hid (fun V (h : Below W1.drew.heap.size W1.drew V) => range_blk (cs := [.int .i64 a, .int .i64 b, .int .i64 c, .int .i64 d, .int .i64 e]) (hRs.out V h).sb)
   have cO := hid (fun V (h : Below W1.drew.heap.size W1.drew V) => Over_any (l := l) (p := p) (cap := cap) a b c d e n t V (by have := (hRs.out V h).items; rwa [← hL.out] at this) hle hn64 htl hok)
   have cS := hid (fun V (h : Below W1.drew.heap.size W1.drew V) => SLine_any (.slice p l.length cap) l n t a la V (by have := (hRs.out V h).items; rwa [← hL.out] at this) hle hn64 (by constructor <;> omega) ha64 hok)
   rw [hwd.out, htol.out, hov, hL.out] at cO
   rw [hL.out] at cS
   clear bd hRr hJs gW sB hck y0 hov
   replace hla := hid hla
   refine region_heldIn (S := (fun V => Below W1.drew.heap.size W1.drew V)) (by kernel_rfl) hst (fun hHeld => ?_)
   generalize W1.drew = W5 at *
   refine wpAnyInH_take (i := 0) (oi := ⟨some 28, _, _, _, _, _⟩) (v := ?_) rfl rfl (by kernel_rfl) (by kernel_rfl) (by kernel_rfl) (fun _ _ _ h => h) (Or.inl ⟨by rfl, ?_⟩) (fun _ => rfl) (by assumption) ?_
   rotate_left
   ·intro w hSw; (try dsimp only at hSw); have h9 := kK.out _ hSw; go_simp <;> with_reducible rfl
   try simp only [Act.put, aS, aZ, aC]
   refine wpAnyInH_take (i := 1) (oi := ⟨some 29, _, _, _, _, _⟩) (v := ?_) rfl rfl (by kernel_rfl) (by kernel_rfl) (by kernel_rfl) (fun _ _ _ h => h) (Or.inl ⟨by rfl, ?_⟩) (fun _ => rfl) (by assumption) ?_
   rotate_left
   ·intro w hSw; (try dsimp only at hSw); go_simp <;> with_reducible rfl
   try simp only [Act.put, aS, aZ, aC]
   refine wpAnyInH_take (i := 2) (oi := ⟨some 30, _, _, _, _, _⟩) (v := ?_) rfl rfl (by kernel_rfl) (by kernel_rfl) (by kernel_rfl) (fun _ _ _ h => h) (Or.inl ⟨by rfl, ?_⟩) (fun _ => rfl) (by assumption) ?_
   rotate_left
   ·intro w hSw; (try dsimp only at hSw); go_simp <;> with_reducible rfl
   try simp only [Act.put, aS, aZ, aC]
   refine wpAnyInH_take (i := 3) (oi := ⟨some 31, _, _, _, _, _⟩) (v := ?_) rfl rfl (by kernel_rfl) (by kernel_rfl) (by kernel_rfl) (fun _ _ _ h => h) (Or.inl ⟨by rfl, ?_⟩) (fun _ => rfl) (by assumption) ?_
   rotate_left
   ·intro w hSw; (try dsimp only at hSw); go_simp <;> with_reducible rfl
   try simp only [Act.put, aS, aZ, aC]
   refine wpAnyInH_take (i := 4) (oi := ⟨some 32, _, _, _, _, _⟩) (v := ?_) rfl rfl (by kernel_rfl) (by kernel_rfl) (by kernel_rfl) (fun _ _ _ h => h) (Or.inl ⟨by rfl, ?_⟩) (fun _ => rfl) (by assumption) ?_
   rotate_left
   ·intro w hSw; (try dsimp only at hSw); have h9 := kL.out _ hSw; go_simp <;> with_reducible rfl
   try simp only [Act.put, aS, aZ, aC]
   refine wpAnyInH_take (i := 5) (oi := ⟨some 33, _, _, _, _, _⟩) rfl rfl (by kernel_rfl) (by kernel_rfl) (by kernel_rfl) (fun _ _ _ h => h) (yieldsIf_load_mid (by rfl) 26 _ rfl ps 0 rfl [.int .i64 a, .int .i64 b, .int .i64 c, .int .i64 d, .int .i64 e] _ (fun w h => kS.out w h) Tryz.underlying26 rfl (by kernel_rfl)) (fun _ => rfl) (by assumption) ?_
   try simp only [Act.put, aS, aZ, aC]
   refine wpAnyInH_take (i := 6) (oi := ⟨some 34, _, _, _, _, _⟩) (v := ?_) rfl rfl (by kernel_rfl) (by kernel_rfl) (by kernel_rfl) (fun _ _ _ h => h) (Or.inl ⟨by rfl, ?_⟩) (fun _ => rfl) (by assumption) ?_
   rotate_left
   ·intro w hSw; (try dsimp only at hSw); go_simp <;> with_reducible rfl
   try simp only [Act.put, aS, aZ, aC]
   refine wpAnyInH_take (i := 7) (oi := ⟨some 35, _, _, _, _, _⟩) (v := ?_) rfl rfl (by kernel_rfl) (by kernel_rfl) (by kernel_rfl) (fun _ _ _ h => h) (Or.inl ⟨by rfl, ?_⟩) (fun _ => rfl) (by assumption) ?_
   rotate_left
   ·intro w hSw; (try dsimp only at hSw); go_simp <;> with_reducible rfl
   try simp only [Act.put, aS, aZ, aC]
   refine wpAnyInH_take (i := 9) (oi := ⟨some 37, _, _, _, _, _⟩) (v := ?_) rfl rfl (by kernel_rfl) (by kernel_rfl) (by kernel_rfl) (fun _ _ _ h => h) (Or.inl ⟨by rfl, ?_⟩) (fun _ => rfl) (by assumption) ?_
   rotate_left
   ·intro w hSw; (try dsimp only at hSw); have h9 := kL.out _ hSw; go_simp <;> with_reducible rfl
   try simp only [Act.put, aS, aZ, aC]
   refine wpAnyInH_take (i := 10) (oi := ⟨some 38, _, _, _, _, _⟩) (v := ?_) rfl rfl (by kernel_rfl) (by kernel_rfl) (by kernel_rfl) (fun _ _ _ h => h) (Or.inl ⟨by rfl, ?_⟩) (fun _ => rfl) (by assumption) ?_
   rotate_left
   ·intro w hSw; (try dsimp only at hSw); go_simp <;> with_reducible rfl
   try simp only [Act.put, aS, aZ, aC]
   refine wpAnyInH_take (i := 11) (oi := ⟨some 39, _, _, _, _, _⟩) (v := ?_) rfl rfl (by kernel_rfl) (by kernel_rfl) (by kernel_rfl) (fun _ _ _ h => h) (Or.inl ⟨by rfl, ?_⟩) (fun _ => rfl) (by assumption) ?_
   rotate_left
   ·intro w hSw; (try dsimp only at hSw); go_simp <;> with_reducible rfl
   try simp only [Act.put, aS, aZ, aC]
   refine wpAnyInH_take (i := 12) (oi := ⟨some 40, _, _, _, _, _⟩) (v := ?_) rfl rfl (by kernel_rfl) (by kernel_rfl) (by kernel_rfl) (fun _ _ _ h => h) (Or.inl ⟨by rfl, ?_⟩) (fun _ => rfl) (by assumption) ?_
   rotate_left
   ·intro w hSw; (try dsimp only at hSw); go_simp <;> with_reducible rfl
   try simp only [Act.put, aS, aZ, aC]
   refine wpAnyInH_take (i := 13) (oi := ⟨some 41, _, _, _, _, _⟩) (v := ?_) rfl rfl (by kernel_rfl) (by kernel_rfl) (by kernel_rfl) (fun _ _ _ h => h) (Or.inl ⟨by rfl, ?_⟩) (fun _ => rfl) (by assumption) ?_
   rotate_left
   ·intro w hSw; (try dsimp only at hSw); have h9 := kA.out _ hSw; go_simp <;> with_reducible rfl
   try simp only [Act.put, aS, aZ, aC]
   refine wpAnyInH_take (i := 14) (oi := ⟨some 42, _, _, _, _, _⟩) (v := ?_) rfl rfl (by kernel_rfl) (by kernel_rfl) (by kernel_rfl) (fun _ _ _ h => h) (Or.inl ⟨by rfl, ?_⟩) (fun _ => rfl) (by assumption) ?_
   rotate_left
   ·intro w hSw; (try dsimp only at hSw); go_simp <;> with_reducible rfl
   try simp only [Act.put, aS, aZ, aC]
   refine wpAnyInH_ready (rs := [8, 17]) (by kernel_rfl) (by simp) ?_
   refine AllReadyInH.cons (o := ⟨some 36, _, _, _, _, _⟩) rfl (fun K hK => ?_) ?_
   ·go_simp
    refine ⟨trivial, rfl, (callsIn_wide.2 (cO.out _ hHeld)).mono ?_⟩
    rintro r w7 ⟨rfl, b7⟩
    have b8 := hHeld.trans (b7.mono hHeld.size)
    clear hHeld b7
    first | refine hK.out _ _ (b8) (fun hHeld => ?_) | refine ⟨trivial, hK.out _ _ (b8) (fun hHeld => ?_)⟩ | refine ⟨fun _ _ => trivial, hK.out _ _ (b8) (fun hHeld => ?_)⟩
    clear hK K
    try simp only [Act.put, aS, aZ, aC]
    refine wpAnyInH_ready (rs := [15, 17]) (by kernel_rfl) (by simp) ?_
    refine AllReadyInH.cons (o := ⟨some 43, _, _, _, _, _⟩) rfl (fun K hK => ?_) ?_
    ·go_simp
     refine ⟨trivial, rfl, (callsIn_wide.2 (cS.out _ hHeld)).mono ?_⟩
     rintro r w9 ⟨uu, rfl, hpc, b7⟩
     obtain ⟨uq, uc, rfl, -⟩ := hpc.1.shape
     have b8 := hHeld.trans (b7.mono hHeld.size)
     clear hHeld b7
     first | refine hK.out _ _ (b8) (fun hHeld => ?_) | refine ⟨trivial, hK.out _ _ (b8) (fun hHeld => ?_)⟩ | refine ⟨fun _ _ => trivial, hK.out _ _ (b8) (fun hHeld => ?_)⟩
     clear hK K
     try simp only [Act.put, aS, aZ, aC]
     refine wpAnyInH_take (i := 16) (oi := ⟨some 44, _, _, _, _, _⟩) (v := ?_) rfl rfl (by kernel_rfl) (by kernel_rfl) (by kernel_rfl) (fun _ _ _ h => h) (Or.inl ⟨by rfl, ?_⟩) (fun _ => rfl) (by assumption) ?_
     rotate_left
     ·intro w hSw; (try dsimp only at hSw); go_simp <;> with_reducible rfl
     try simp only [Act.put, aS, aZ, aC]
     refine wpAnyInH_ready (rs := [17]) (by kernel_rfl) (by simp) ?_
     refine AllReadyInH.cons (o := ⟨some 10, _, _, _, _, _⟩) rfl (fun K hK => ?_) AllReadyInH.nil
     go_simp
     obtain ⟨nb, hn9⟩ : ∃ n, w9.heap.size = n := ⟨_, rfl⟩
     have g9 := World.alloc_heap_new w9 (.cells #[.int .i64 0, .bool false, .bool false, .bool false, .slice none 0 0] 44)
     rw [hn9] at g9
     have bA := hHeld.alloc hHeld.size (.cells #[.int .i64 0, .bool false, .bool false, .bool false, .slice none 0 0] 44)
     have kZ := Kept.alloc 0 w9 (.cells #[.int .i64 0, .bool false, .bool false, .bool false, .slice none 0 0] 44)
     have hzb : W5.heap.size ≤ nb := by rw [← hn9]; exact hHeld.size
     replace hpc := hpc.kept kZ
     try rw [hn9]
     obtain ⟨x9, hx9⟩ : ∃ W : World, W = w9.alloc (.cells #[.int .i64 0, .bool false, .bool false, .bool false, .slice none 0 0] 44) := ⟨_, rfl⟩
     rw [← hx9] at g9 bA hpc ⊢
     clear hx9 kZ hHeld hn9
     first | refine hK.out _ _ (bA) (fun hHeld => ?_) | refine ⟨trivial, hK.out _ _ (bA) (fun hHeld => ?_)⟩ | refine ⟨fun _ _ => trivial, hK.out _ _ (bA) (fun hHeld => ?_)⟩
     clear hK K
     try simp only [Act.put, aS, aZ, aC]
     refine wpAnyInH_ready (rs := [18]) (by kernel_rfl) (by simp) ?_
     refine AllReadyInH.cons (o := ⟨none, _, _, _, _, _⟩) rfl (fun K hK => ?_) AllReadyInH.nil
     refine (if_pos (by rfl)).mpr ?_
     refine wpIn_store_mid 44 _ _ rfl nb 0 #[.int .i64 kind, .bool fi, .bool la, .bool ov, .slice uq (setL l n t a la).length uc] rfl rfl (there_blk g9 rfl) (by kernel_rfl) (line_one _ _ _ _ _ _ _) ?_
     refine hK.out _ _ (below_setG hzb _ _ _ hHeld) (fun hHeld => ?_)
     clear hK K
     try simp only [Act.put]
     refine wpAnyInH_done (by kernel_rfl) ?_ _
     have uX := (Upd.refl g9).setCells (#[.int .i64 kind, .bool fi, .bool la, .bool ov, .slice uq (setL l n t a la).length uc] : Array Value).toList rfl
     have g10 := uX.here
     rw [Array.toArray_toList] at g10
     replace hpc : PcAt (x9.setCells nb 0 (#[.int .i64 kind, .bool fi, .bool la, .bool ov, .slice uq (setL l n t a la).length uc] : Array Value).toList) _ _ := hpc.off (fun k cs fr hk => (uX.off k (by rintro rfl; rw [g9] at hk; cases hk)).trans hk)
     obtain ⟨W9, hW9⟩ : ∃ W : World, W = x9.setCells nb 0 (#[.int .i64 kind, .bool fi, .bool la, .bool ov, .slice uq (setL l n t a la).length uc] : Array Value).toList := ⟨_, rfl⟩
     replace hHeld : Below W5.heap.size W5 W9 := by rw [hW9]; exact hHeld
     rw [← hW9] at hpc g10 ⊢
     clear hW9 uX g9 cO cS kS kK kL kA hst
     have hJ9 := hJ5.out W9 hHeld
     have hR9 := hRs.out W9 hHeld
     have hY2 := hY M P ((uq, (setL l n t a la).length, uc), lineAt l a wd tol kind br k) W9 hM1 hJ9 hR9 ⟨by
       rw [List.map_append, hP]
       exact hpre.out, by rw [hps.out]; exact hpc⟩
     obtain ⟨fn, tmps, assign, body, hy, hRd⟩ := hY2
     have gW9 := (Kept.of_below hHeld 0).same _ _ gW5 (.inl rfl)
     have sB9 := (Kept.of_below hHeld 0).sl sB5
     have x0 : W9.cell? ⟨nb, 0, none⟩ = some (.int .i64 kind) := cell_blk (i := 0) g10 rfl
     have x1 : W9.cell? ⟨nb, 1, none⟩ = some (.bool fi) := cell_blk (i := 1) g10 rfl
     have x2 : W9.cell? ⟨nb, 2, none⟩ = some (.bool la) := cell_blk (i := 2) g10 rfl
     have x3 : W9.cell? ⟨nb, 3, none⟩ = some (.bool ov) := cell_blk (i := 3) g10 rfl
     have x4 : W9.cell? ⟨nb, 4, none⟩ = some (.slice uq (setL l n t a la).length uc) := cell_blk (i := 4) g10 rfl
     rw [show lnEnc ((uq, (setL l n t a la).length, uc), lineAt l a wd tol kind br k) = #[.agg #[.int .i64 kind, .bool fi, .bool la, .bool ov, .slice uq (setL l n t a la).length uc]] by unfold lnEnc encLs; rw [hln.out]] at hy
     clear hHeld hJ5 hRs gW5 sB5 g10 hpc
     gi_wp2
     refine ⟨rfl, hRd.mono ?_⟩
     rintro e W3 (⟨rfl, hJ3, hR3, hkm⟩ | ⟨rfl, hJx3⟩)
     ·have gW3 := hkm.same _ _ hnW gW9 (.inr hnM)
      have sB3 := sl_keepsM sB9 hqM hkm
      have hP3 : (P ++ [((uq, (setL l n t a la).length, uc), lineAt l a wd tol kind br k)]).map (·.2) = (List.range (k + 1)).map (lineAt l a wd tol kind br) := by rw [List.map_append, hP, List.range_succ, List.map_append]; rfl
      replace hP3 := hid hP3
      clear sB9 gW9
      gi_wp2
      refine ⟨⟨k + 1, _, by omega, ?_, by go_num, hP3.out, hJ3, hR3, gW3, sB3⟩, by simp [RowKit.intOf]; omega⟩
      rw [hlk.out]
     ·gi_wp2
      refine bodyPost_ret (results_none rfl _ _ _) rfl ?_
      exact ⟨⟨_, rfl⟩, .inr ⟨_, trivial, hJx3⟩⟩
    refine AllReadyInH.cons (o := ⟨some 10, _, _, _, _, _⟩) rfl (fun K hK => ?_) AllReadyInH.nil
    go_simp
    obtain ⟨nb, hn9⟩ : ∃ n, w7.heap.size = n := ⟨_, rfl⟩
    have g9 := World.alloc_heap_new w7 (.cells #[.int .i64 0, .bool false, .bool false, .bool false, .slice none 0 0] 44)
    rw [hn9] at g9
    have bA := hHeld.alloc hHeld.size (.cells #[.int .i64 0, .bool false, .bool false, .bool false, .slice none 0 0] 44)
    have kZ := Kept.alloc 0 w7 (.cells #[.int .i64 0, .bool false, .bool false, .bool false, .slice none 0 0] 44)
    have hzb : W5.heap.size ≤ nb := by rw [← hn9]; exact hHeld.size
    try rw [hn9]
    obtain ⟨x9, hx9⟩ : ∃ W : World, W = w7.alloc (.cells #[.int .i64 0, .bool false, .bool false, .bool false, .slice none 0 0] 44) := ⟨_, rfl⟩
    rw [← hx9] at g9 bA  ⊢
    clear hx9 kZ hHeld hn9
    first | refine hK.out _ _ (bA) (fun hHeld => ?_) | refine ⟨trivial, hK.out _ _ (bA) (fun hHeld => ?_)⟩ | refine ⟨fun _ _ => trivial, hK.out _ _ (bA) (fun hHeld => ?_)⟩
    clear hK K
    try simp only [Act.put, aS, aZ, aC]
    refine wpAnyInH_ready (rs := [15]) (by kernel_rfl) (by simp) ?_
    refine AllReadyInH.cons (o := ⟨some 43, _, _, _, _, _⟩) rfl (fun K hK => ?_) AllReadyInH.nil
    go_simp
    refine ⟨trivial, rfl, (callsIn_wide.2 (cS.out _ hHeld)).mono ?_⟩
    rintro r w9 ⟨uu, rfl, hpc, b7⟩
    obtain ⟨uq, uc, rfl, -⟩ := hpc.1.shape
    have b8 := hHeld.trans (b7.mono hHeld.size)
    replace g9 := (Kept.of_below b7 0).same _ _ g9 (.inl rfl)
    clear hHeld b7
    first | refine hK.out _ _ (b8) (fun hHeld => ?_) | refine ⟨trivial, hK.out _ _ (b8) (fun hHeld => ?_)⟩ | refine ⟨fun _ _ => trivial, hK.out _ _ (b8) (fun hHeld => ?_)⟩
    clear hK K
    try simp only [Act.put, aS, aZ, aC]
    refine wpAnyInH_take (i := 16) (oi := ⟨some 44, _, _, _, _, _⟩) (v := ?_) rfl rfl (by kernel_rfl) (by kernel_rfl) (by kernel_rfl) (fun _ _ _ h => h) (Or.inl ⟨by rfl, ?_⟩) (fun _ => rfl) (by assumption) ?_
    rotate_left
    ·intro w hSw; (try dsimp only at hSw); go_simp <;> with_reducible rfl
    try simp only [Act.put, aS, aZ, aC]
    refine wpAnyInH_ready (rs := [18]) (by kernel_rfl) (by simp) ?_
    refine AllReadyInH.cons (o := ⟨none, _, _, _, _, _⟩) rfl (fun K hK => ?_) AllReadyInH.nil
    refine (if_pos (by rfl)).mpr ?_
    refine wpIn_store_mid 44 _ _ rfl nb 0 #[.int .i64 kind, .bool fi, .bool la, .bool ov, .slice uq (setL l n t a la).length uc] rfl rfl (there_blk g9 rfl) (by kernel_rfl) (line_one _ _ _ _ _ _ _) ?_
    refine hK.out _ _ (below_setG hzb _ _ _ hHeld) (fun hHeld => ?_)
    clear hK K
    try simp only [Act.put]
    refine wpAnyInH_done (by kernel_rfl) ?_ _
    have uX := (Upd.refl g9).setCells (#[.int .i64 kind, .bool fi, .bool la, .bool ov, .slice uq (setL l n t a la).length uc] : Array Value).toList rfl
    have g10 := uX.here
    rw [Array.toArray_toList] at g10
    replace hpc : PcAt (w9.setCells nb 0 (#[.int .i64 kind, .bool fi, .bool la, .bool ov, .slice uq (setL l n t a la).length uc] : Array Value).toList) _ _ := hpc.off (fun k cs fr hk => (uX.off k (by rintro rfl; rw [g9] at hk; cases hk)).trans hk)
    obtain ⟨W9, hW9⟩ : ∃ W : World, W = w9.setCells nb 0 (#[.int .i64 kind, .bool fi, .bool la, .bool ov, .slice uq (setL l n t a la).length uc] : Array Value).toList := ⟨_, rfl⟩
    replace hHeld : Below W5.heap.size W5 W9 := by rw [hW9]; exact hHeld
    rw [← hW9] at hpc g10 ⊢
    clear hW9 uX g9 cO cS kS kK kL kA hst
    have hJ9 := hJ5.out W9 hHeld
    have hR9 := hRs.out W9 hHeld
    have hY2 := hY M P ((uq, (setL l n t a la).length, uc), lineAt l a wd tol kind br k) W9 hM1 hJ9 hR9 ⟨by
      rw [List.map_append, hP]
      exact hpre.out, by rw [hps.out]; exact hpc⟩
    obtain ⟨fn, tmps, assign, body, hy, hRd⟩ := hY2
    have gW9 := (Kept.of_below hHeld 0).same _ _ gW5 (.inl rfl)
    have sB9 := (Kept.of_below hHeld 0).sl sB5
    have x0 : W9.cell? ⟨nb, 0, none⟩ = some (.int .i64 kind) := cell_blk (i := 0) g10 rfl
    have x1 : W9.cell? ⟨nb, 1, none⟩ = some (.bool fi) := cell_blk (i := 1) g10 rfl
    have x2 : W9.cell? ⟨nb, 2, none⟩ = some (.bool la) := cell_blk (i := 2) g10 rfl
    have x3 : W9.cell? ⟨nb, 3, none⟩ = some (.bool ov) := cell_blk (i := 3) g10 rfl
    have x4 : W9.cell? ⟨nb, 4, none⟩ = some (.slice uq (setL l n t a la).length uc) := cell_blk (i := 4) g10 rfl
    rw [show lnEnc ((uq, (setL l n t a la).length, uc), lineAt l a wd tol kind br k) = #[.agg #[.int .i64 kind, .bool fi, .bool la, .bool ov, .slice uq (setL l n t a la).length uc]] by unfold lnEnc encLs; rw [hln.out]] at hy
    clear hHeld hJ5 hRs gW5 sB5 g10 hpc
    gi_wp2
    refine ⟨rfl, hRd.mono ?_⟩
    rintro e W3 (⟨rfl, hJ3, hR3, hkm⟩ | ⟨rfl, hJx3⟩)
    ·have gW3 := hkm.same _ _ hnW gW9 (.inr hnM)
     have sB3 := sl_keepsM sB9 hqM hkm
     have hP3 : (P ++ [((uq, (setL l n t a la).length, uc), lineAt l a wd tol kind br k)]).map (·.2) = (List.range (k + 1)).map (lineAt l a wd tol kind br) := by rw [List.map_append, hP, List.range_succ, List.map_append]; rfl
     replace hP3 := hid hP3
     clear sB9 gW9
     gi_wp2
     refine ⟨⟨k + 1, _, by omega, ?_, by go_num, hP3.out, hJ3, hR3, gW3, sB3⟩, by simp [RowKit.intOf]; omega⟩
     rw [hlk.out]
    ·gi_wp2
     refine bodyPost_ret (results_none rfl _ _ _) rfl ?_
     exact ⟨⟨_, rfl⟩, .inr ⟨_, trivial, hJx3⟩⟩
   refine AllReadyInH.cons (o := ⟨some 10, _, _, _, _, _⟩) rfl (fun K hK => ?_) AllReadyInH.nil
   go_simp
   obtain ⟨nb, hn9⟩ : ∃ n, W5.heap.size = n := ⟨_, rfl⟩
   have g9 := World.alloc_heap_new W5 (.cells #[.int .i64 0, .bool false, .bool false, .bool false, .slice none 0 0] 44)
   rw [hn9] at g9
   have bA := hHeld.alloc hHeld.size (.cells #[.int .i64 0, .bool false, .bool false, .bool false, .slice none 0 0] 44)
   have kZ := Kept.alloc 0 W5 (.cells #[.int .i64 0, .bool false, .bool false, .bool false, .slice none 0 0] 44)
   have hzb : W5.heap.size ≤ nb := by rw [← hn9]; exact hHeld.size
   try rw [hn9]
   obtain ⟨x9, hx9⟩ : ∃ W : World, W = W5.alloc (.cells #[.int .i64 0, .bool false, .bool false, .bool false, .slice none 0 0] 44) := ⟨_, rfl⟩
   rw [← hx9] at g9 bA  ⊢
   clear hx9 kZ hHeld hn9
   first | refine hK.out _ _ (bA) (fun hHeld => ?_) | refine ⟨trivial, hK.out _ _ (bA) (fun hHeld => ?_)⟩ | refine ⟨fun _ _ => trivial, hK.out _ _ (bA) (fun hHeld => ?_)⟩
   clear hK K
   try simp only [Act.put, aS, aZ, aC]
   refine wpAnyInH_ready (rs := [8]) (by kernel_rfl) (by simp) ?_
   refine AllReadyInH.cons (o := ⟨some 36, _, _, _, _, _⟩) rfl (fun K hK => ?_) AllReadyInH.nil
   go_simp
   refine ⟨trivial, rfl, (callsIn_wide.2 (cO.out _ hHeld)).mono ?_⟩
   rintro r w7 ⟨rfl, b7⟩
   have b8 := hHeld.trans (b7.mono hHeld.size)
   replace g9 := (Kept.of_below b7 0).same _ _ g9 (.inl rfl)
   clear hHeld b7
   first | refine hK.out _ _ (b8) (fun hHeld => ?_) | refine ⟨trivial, hK.out _ _ (b8) (fun hHeld => ?_)⟩ | refine ⟨fun _ _ => trivial, hK.out _ _ (b8) (fun hHeld => ?_)⟩
   clear hK K
   try simp only [Act.put, aS, aZ, aC]
   refine wpAnyInH_ready (rs := [15]) (by kernel_rfl) (by simp) ?_
   refine AllReadyInH.cons (o := ⟨some 43, _, _, _, _, _⟩) rfl (fun K hK => ?_) AllReadyInH.nil
   go_simp
   refine ⟨trivial, rfl, (callsIn_wide.2 (cS.out _ hHeld)).mono ?_⟩
   rintro r w9 ⟨uu, rfl, hpc, b7⟩
   obtain ⟨uq, uc, rfl, -⟩ := hpc.1.shape
   have b8 := hHeld.trans (b7.mono hHeld.size)
   replace g9 := (Kept.of_below b7 0).same _ _ g9 (.inl rfl)
   clear hHeld b7
   first | refine hK.out _ _ (b8) (fun hHeld => ?_) | refine ⟨trivial, hK.out _ _ (b8) (fun hHeld => ?_)⟩ | refine ⟨fun _ _ => trivial, hK.out _ _ (b8) (fun hHeld => ?_)⟩
   clear hK K
   try simp only [Act.put, aS, aZ, aC]
   refine wpAnyInH_take (i := 16) (oi := ⟨some 44, _, _, _, _, _⟩) (v := ?_) rfl rfl (by kernel_rfl) (by kernel_rfl) (by kernel_rfl) (fun _ _ _ h => h) (Or.inl ⟨by rfl, ?_⟩) (fun _ => rfl) (by assumption) ?_
   rotate_left
   ·intro w hSw; (try dsimp only at hSw); go_simp <;> with_reducible rfl
   try simp only [Act.put, aS, aZ, aC]
   refine wpAnyInH_ready (rs := [18]) (by kernel_rfl) (by simp) ?_
   refine AllReadyInH.cons (o := ⟨none, _, _, _, _, _⟩) rfl (fun K hK => ?_) AllReadyInH.nil
   refine (if_pos (by rfl)).mpr ?_
   refine wpIn_store_mid 44 _ _ rfl nb 0 #[.int .i64 kind, .bool fi, .bool la, .bool ov, .slice uq (setL l n t a la).length uc] rfl rfl (there_blk g9 rfl) (by kernel_rfl) (line_one _ _ _ _ _ _ _) ?_
   refine hK.out _ _ (below_setG hzb _ _ _ hHeld) (fun hHeld => ?_)
   clear hK K
   try simp only [Act.put]
   refine wpAnyInH_done (by kernel_rfl) ?_ _
   have uX := (Upd.refl g9).setCells (#[.int .i64 kind, .bool fi, .bool la, .bool ov, .slice uq (setL l n t a la).length uc] : Array Value).toList rfl
   have g10 := uX.here
   rw [Array.toArray_toList] at g10
   replace hpc : PcAt (w9.setCells nb 0 (#[.int .i64 kind, .bool fi, .bool la, .bool ov, .slice uq (setL l n t a la).length uc] : Array Value).toList) _ _ := hpc.off (fun k cs fr hk => (uX.off k (by rintro rfl; rw [g9] at hk; cases hk)).trans hk)
   obtain ⟨W9, hW9⟩ : ∃ W : World, W = w9.setCells nb 0 (#[.int .i64 kind, .bool fi, .bool la, .bool ov, .slice uq (setL l n t a la).length uc] : Array Value).toList := ⟨_, rfl⟩
   replace hHeld : Below W5.heap.size W5 W9 := by rw [hW9]; exact hHeld
   rw [← hW9] at hpc g10 ⊢
   clear hW9 uX g9 cO cS kS kK kL kA hst
   have hJ9 := hJ5.out W9 hHeld
   have hR9 := hRs.out W9 hHeld
   have hY2 := hY M P ((uq, (setL l n t a la).length, uc), lineAt l a wd tol kind br k) W9 hM1 hJ9 hR9 ⟨by
     rw [List.map_append, hP]
     exact hpre.out, by rw [hps.out]; exact hpc⟩
   obtain ⟨fn, tmps, assign, body, hy, hRd⟩ := hY2
   have gW9 := (Kept.of_below hHeld 0).same _ _ gW5 (.inl rfl)
   have sB9 := (Kept.of_below hHeld 0).sl sB5
   have x0 : W9.cell? ⟨nb, 0, none⟩ = some (.int .i64 kind) := cell_blk (i := 0) g10 rfl
   have x1 : W9.cell? ⟨nb, 1, none⟩ = some (.bool fi) := cell_blk (i := 1) g10 rfl
   have x2 : W9.cell? ⟨nb, 2, none⟩ = some (.bool la) := cell_blk (i := 2) g10 rfl
   have x3 : W9.cell? ⟨nb, 3, none⟩ = some (.bool ov) := cell_blk (i := 3) g10 rfl
   have x4 : W9.cell? ⟨nb, 4, none⟩ = some (.slice uq (setL l n t a la).length uc) := cell_blk (i := 4) g10 rfl
   rw [show lnEnc ((uq, (setL l n t a la).length, uc), lineAt l a wd tol kind br k) = #[.agg #[.int .i64 kind, .bool fi, .bool la, .bool ov, .slice uq (setL l n t a la).length uc]] by unfold lnEnc encLs; rw [hln.out]] at hy
   clear hHeld hJ5 hRs gW5 sB5 g10 hpc
   gi_wp2
   refine ⟨rfl, hRd.mono ?_⟩
   rintro e W3 (⟨rfl, hJ3, hR3, hkm⟩ | ⟨rfl, hJx3⟩)
   ·have gW3 := hkm.same _ _ hnW gW9 (.inr hnM)
    have sB3 := sl_keepsM sB9 hqM hkm
    have hP3 : (P ++ [((uq, (setL l n t a la).length, uc), lineAt l a wd tol kind br k)]).map (·.2) = (List.range (k + 1)).map (lineAt l a wd tol kind br) := by rw [List.map_append, hP, List.range_succ, List.map_append]; rfl
    replace hP3 := hid hP3
    clear sB9 gW9
    gi_wp2
    refine ⟨⟨k + 1, _, by omega, ?_, by go_num, hP3.out, hJ3, hR3, gW3, sB3⟩, by simp [RowKit.intOf]; omega⟩
    rw [hlk.out]
   ·gi_wp2
    refine bodyPost_ret (results_none rfl _ _ _) rfl ?_
    exact ⟨⟨_, rfl⟩, .inr ⟨_, trivial, hJx3⟩⟩
  ·obtain rfl : k = N := by omega
   have hfin : P.map (fun x => x.2) = linesL l a wd tol kind (-1) true br := by rw [hP, linesL_eq, hN.out]
   clear hP
   gi_wp2_with (fail)
   go_end0
   exact ⟨⟨_, rfl⟩, .inl ⟨P, M, hfin, hJs, hRr⟩⟩
end
end Go.Proofs.YtempicociampoaaGreatDoor
