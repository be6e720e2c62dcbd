/- The rows of found ways as they lie in their block, the paragraph beside them. The walk of slices.AppendSeq and Collect, of pieces. Ranges over a function whose iterator writes to boxes that lay there ahead of the range: told by their numbers (by gen_rangeb.py). Plain laws of lines: where pieces stand apart, there is a glue. The walk of keep.Pieces, of alike ones. -/
import Derived.Test.YtempicociampoaaGreatDoorJ8
import Derived.Laws.MakeOwn
import Derived.Test.YtempicociampoaaGreatDoorJ9
import Derived.Test.YtempicociampoaaGreatDoorJ0
import Derived.Deep.QuietTactic
import Derived.BigQuiet
namespace Go.Proofs.YtempicociampoaaGreatDoor
open Go.RowKit Go.Shelf Go.Lib

theorem enc4_len (r : Value × Int × Int × Bool) : (enc4 r).length = 4 := rfl
theorem sl_off {α : Type} {W : World} {K : Nat} {enc : α → List Value} {v : Value} {l : List α} {G o : Nat} {vs : List Value} (h : Sl W K enc v l) (hb : ∀ a n m, v = .slice (some a) n m → a.block ≠ G) : Sl (W.setCells G o vs) K enc v l := by
 rcases h with ⟨rfl, rfl⟩ | ⟨a, cap, rfl, h1, h2, h3, h4⟩
 ·exact .inl ⟨rfl, rfl⟩
 ·refine .inr ⟨a, cap, rfl, h1, h2, h3, fun i x hi j u hj => ?_⟩
  have h9 := h4 i x hi j u hj
  unfold World.cell? at h9 ⊢
  rw [setCells_off _ _ _ _ (hb _ _ _ rfl)]
  exact h9
theorem sl_cell1 {W : World} {b n c : Nat} {l : List Int} (h : Sl W 1 encI (.slice (some ⟨b, 0, none⟩) n c) l) {j : Nat} {x : Int} (hx : l[j]? = some x) : W.cell? ⟨b, j, none⟩ = some (.int .i64 x) := by
 obtain ⟨b', o, c', e, -, -, h9⟩ := h.open (by rintro rfl; simp at hx)
 obtain ⟨h1, -, -⟩ := Value.slice.inj e
 obtain ⟨rfl, rfl, -⟩ := Addr.mk.inj (Option.some.inj h1)
 have := rangeAt_one (h9 j x hx)
 rwa [Nat.mul_one, Nat.zero_add] at this
theorem RowOk.off {W : World} {G : Nat} {r : Value × Int × Int × Bool} {c : Option Wy} {o : Nat} {vs : List Value} (h : RowOk W G r c) : RowOk (W.setCells G o vs) G r c := by
 cases c with
 | none => exact h
 | some w => exact ⟨h.1, sl_off h.2.1 fun a n m e => by have := h.2.2 a n m e; omega, h.2.2⟩
theorem RowOk.shape {W : World} {G : Nat} {r : Value × Int × Int × Bool} {c : Option Wy} (h : RowOk W G r c) : ∃ q n m a b d, r = (.slice q n m, a, b, d) := by
 obtain ⟨r1, a, b, d⟩ := r
 cases c with
 | none => cases h; exact ⟨_, _, _, _, _, _, rfl⟩
 | some w =>
  obtain ⟨q, m, e, -⟩ := h.2.1.shape
  dsimp only at e
  subst e
  exact ⟨_, _, _, _, _, _, rfl⟩
/-- the rows of found ways -/
structure Rows (W : World) (G N : Nat) (rows : List (Value × Int × Int × Bool)) (f : Nat → Option Wy) : Prop where
 own : W.ownsRow G 86 4 (.slice (some ⟨G, 0, none⟩) N N) N (rows.flatMap enc4)
 len : rows.length = N
 row : ∀ j r, rows[j]? = some r → RowOk W G r (f j)
section
variable {W W' : World} {G N : Nat} {rows : List (Value × Int × Int × Bool)} {f f' : Nat → Option Wy}
theorem Rows.below (h : Rows W G N rows f) (hb : Below W.heap.size W W') : Rows W' G N rows f := ⟨(Kept.of_below hb 0).owns h.own, h.len, fun j r hj => (h.row j r hj).kept hb⟩
theorem Rows.congr (h : Rows W G N rows f) (hf : ∀ j, f' j = f j) : Rows W G N rows f' := ⟨h.own, h.len, fun j r hj => by rw [hf]; exact h.row j r hj⟩
theorem Rows.blk (h : Rows W G N rows f) : ∃ cs, W.heap[G]? = some (.cells cs 86 (0, 0)) ∧ cs.size = N * 4 := by
 rcases h.own.2 with ⟨h', _⟩ | ⟨g, cap, cur, h', hb, hg, hnc, hcm, hcs, -⟩
 ·simp at h'
 ·simp only [Value.slice.injEq, Option.some.injEq, Addr.mk.injEq, and_true, true_and] at h'
  obtain ⟨rfl, rfl⟩ := h'
  exact ⟨cur, hg, hcs⟩
theorem Rows.range (h : Rows W G N rows f) {i : Nat} {r : Value × Int × Int × Bool} (hr : rows[i]? = some r) : W.rangeAt G (i * 4) (enc4 r) := by
 have h1 := h.own
 rw [← h.len] at h1
 have h2 := sl_of_owns (fun x _ => enc4_len x) h1
 obtain ⟨b', o, c', e, -, -, h9⟩ := h2.open (by rintro rfl; simp at hr)
 obtain ⟨h3, -, -⟩ := Value.slice.inj e
 obtain ⟨rfl, rfl, -⟩ := Addr.mk.inj (Option.some.inj h3)
 have := h9 i r hr
 rwa [Nat.zero_add] at this
theorem Rows.set (h : Rows W G N rows f) {i : Nat} (hi : i < N) {x : Wy} {v : Value} (hx : Sl W 1 encI v x.br) (hv : ∀ a n m, v = .slice (some a) n m → G < a.block) (hf : f' i = some x) (hf2 : ∀ j, j ≠ i → f' j = f j) :
  Rows (W.setCells G (i * 4) (enc4 (v, x.tot, x.ov, true))) G N (rows.set i (v, x.tot, x.ov, true)) f' := by
 refine ⟨own_row enc4_len h.own (by rw [h.len]; exact hi) _, by rw [List.length_set, h.len], fun j r hj => ?_⟩
 by_cases e : j = i
 ·subst e
  rw [List.getElem?_set_self (by rw [h.len]; exact hi)] at hj
  obtain rfl := Option.some.inj hj
  rw [hf]
  exact ⟨rfl, sl_off hx fun a n m e => by have := hv a n m e; omega, hv⟩
 ·rw [List.getElem?_set_ne (by omega)] at hj
  rw [hf2 j e]
  exact (h.row j r hj).off
theorem Rows.get (h : Rows W G N rows f) {i : Nat} (hi : i < N) : ∃ r, rows[i]? = some r ∧ RowOk W G r (f i) := ⟨rows[i]'(by rw [h.len]; exact hi), List.getElem?_eq_getElem _, h.row i _ (List.getElem?_eq_getElem _)⟩
end
def zeroR : Value × Int × Int × Bool := (.slice none 0 0, 0, 0, false)
theorem made4 : ∀ N : Nat, Go.madeCells #[.slice none 0 0, .int .i64 0, .int .i64 0, .bool false] (N * 4) = ((List.replicate N zeroR).flatMap enc4).toArray := by
 intro N
 have h : ∀ N : Nat, (List.range (N * 4)).map (fun i => (#[Value.slice none 0 0, .int .i64 0, .int .i64 0, .bool false] : Array Value)[i % 4]!) = (List.replicate N zeroR).flatMap enc4 := by
  intro N
  induction N with
  | zero => rfl
  | succ N ih =>
   rw [show (N + 1) * 4 = N * 4 + 1 + 1 + 1 + 1 by omega, List.range_succ, List.range_succ, List.range_succ, List.range_succ]
   simp only [List.map_append, ih]
   rw [show N + 1 = N + 1 from rfl, List.replicate_succ', List.flatMap_append]
   simp only [List.append_assoc, List.map_cons, List.map_nil]
   rw [show N * 4 % 4 = 0 by omega, show (N * 4 + 1) % 4 = 1 by omega, show (N * 4 + 1 + 1) % 4 = 2 by omega, show (N * 4 + 1 + 1 + 1) % 4 = 3 by omega]
   rfl
 apply Array.toList_inj.1
 unfold Go.madeCells
 rw [Array.toList_map, Array.toList_range, ← h N]
 rfl
/-- the first rows: a way of nothing to the beginning, none else -/
theorem rows_first {W : World} {G M : Nat} (hg : W.heap[G]? = some (.cells ((List.replicate (M + 2) zeroR).flatMap enc4).toArray 86 (0, 0))) (hM : M + 2 ≤ maxLen) {l : List It} {wd tol : Int} {all : Bool} {pl : List Int} :
  Rows (W.setCell ⟨G, 3, none⟩ (.bool true)) G (M + 2) ((.slice none 0 0, 0, 0, true) :: List.replicate (M + 1) zeroR) (curF l wd tol all pl 0 0) := by
 have hlen : ((List.replicate (M + 2) zeroR).flatMap enc4).length = (M + 2) * 4 := by
  rw [List.length_flatMap]; simp [enc4_len]
 have ho : W.ownsRow G 86 4 (.slice (some ⟨G, 0, none⟩) (M + 2) (M + 2)) (M + 2) ((List.replicate (M + 2) zeroR).flatMap enc4) := by
  refine ⟨by simpa using hlen, .inr ⟨G, M + 2, _, rfl, Nat.le_refl _, hg, Nat.le_refl _, hM, by simpa using hlen, ?_⟩⟩
  rw [← hlen]; exact List.take_length
 refine ⟨?_, by simp, fun j r hj => ?_⟩
 ·have h9 := (ho.stored 3 (.bool true)).1
  exact h9
 ·rw [curF_zero]
  cases j with
  | zero =>
   obtain rfl := Option.some.inj hj
   exact ⟨rfl, .inl ⟨rfl, rfl⟩, fun a n m e => by cases e⟩
  | succ j =>
   rw [if_neg (by omega)]
   rw [List.getElem?_cons_succ] at hj
   exact List.eq_of_mem_replicate (List.mem_of_getElem? hj)
/-- what stands beside the rows -/
structure Fx (n₀ : Nat) (pb pc : Nat) (PL : List Int) (cp co : Array Value) (w W : World) : Prop where
 below : Below n₀ w W
 par : W.heap[n₀]? = some (.cells cp 82 (0, 0))
 out : W.heap[n₀ + 1]? = some (.cells co 86 (0, 0))
 pl : Sl W 1 encI (.slice (some ⟨pb, 0, none⟩) PL.length pc) PL
theorem Fx.mono {n₀ pb pc : Nat} {PL : List Int} {cp co : Array Value} {w W W' : World} (h : Fx n₀ pb pc PL cp co w W) (hb : Below W.heap.size W W') : Fx n₀ pb pc PL cp co w W' :=
 ⟨h.below.trans (hb.mono (Nat.le_of_lt (Array.getElem?_eq_some_iff.1 h.par).1)), (Kept.of_below hb 0).same _ _ h.par (.inl rfl), (Kept.of_below hb 0).same _ _ h.out (.inl rfl), (Kept.of_below hb 0).sl h.pl⟩
theorem Fx.set {n₀ pb pc G o : Nat} {PL : List Int} {cp co : Array Value} {w W : World} {vs : List Value} (h : Fx n₀ pb pc PL cp co w W) (hG : n₀ + 1 < G) (hp : pb ≠ G) : Fx n₀ pb pc PL cp co w (W.setCells G o vs) :=
 ⟨below_setG (by omega) _ _ _ h.below, (setCells_off _ _ _ _ (by omega)).trans h.par, (setCells_off _ _ _ _ (by omega)).trans h.out, sl_off h.pl fun a n m e => by cases e; exact hp⟩
theorem curF_last (l : List It) (wd tol : Int) (all : Bool) (pl : List Int) {k : Nat} (hk : pl.length = k + 1) : curF l wd tol all pl k 0 k = bestW l wd tol all pl := by
 rw [curF_low (Nat.le_refl _)]
 unfold bestW
 have hl := found_len l wd tol all pl k
 rw [hk, Nat.add_sub_cancel, List.getLast?_eq_getElem?, hl, Nat.add_sub_cancel, List.getD_eq_getElem?_getD]
theorem own_lit1 {W : World} {g base : Nat} {x : Int} (h : W.heap[g]? = some (.cells #[.int .i64 x] 3 (0, 0))) (hb : base ≤ g) : W.ownsRow base 3 1 (.slice (some ⟨g, 0, none⟩) 1 1) 1 [.int .i64 x] :=
 ⟨rfl, .inr ⟨g, 1, _, rfl, hb, h, Nat.le_refl _, by decide, rfl, rfl⟩⟩
end Go.Proofs.YtempicociampoaaGreatDoor
namespace Go.Proofs.YtempicociampoaaGreatDoor
open Go.RowKit Go.Shelf
attribute [local go_sem] Oper.semAt_some

theorem Tryz.infoPc : (Tryz.prog.info? 47).map (fun i => (i.zero, i.size, i.bytes)) = some (some (.agg #[.int .i64 0, .string ⟨#[]⟩]), 2, 24) := by kernel_rfl
def pcEnc (x : Int × ByteArray) : Array Value := #[.agg (encPc x).toArray]

/-- pieces as they lie: in a block of pieces -/
def PcAt (W : World) (v : Value) (l : List (Int × ByteArray)) : Prop := Sl W 2 encPc v l ∧ ∀ (a : Addr) (n m : Nat), v = .slice (some a) n m → ∃ cs fr, W.heap[a.block]? = some (.cells cs 47 fr)
theorem PcAt.kept {B : Nat} {W W' : World} {v : Value} {l : List (Int × ByteArray)} (h : PcAt W v l) (hk : Kept B W W') : PcAt W' v l :=
 ⟨hk.sl h.1, fun a n m e => by obtain ⟨cs, fr, hh⟩ := h.2 a n m e; exact ⟨cs, fr, hk.same _ _ hh (.inl rfl)⟩⟩
theorem own_typed {W : World} {base : Nat} {e : TypeId} {size : Nat} {v : Value} {n : Nat} {xs : List Value} (h : W.ownsRow base e size v n xs) {a : Addr} {m c : Nat} (hv : v = .slice (some a) m c) : ∃ cs fr, W.heap[a.block]? = some (.cells cs e fr) := by
 rcases h.2 with ⟨rfl, _⟩ | ⟨g, cap, cur, rfl, hg, hh, _⟩
 ·cases hv
 ·cases hv; exact ⟨cur, _, hh⟩
theorem cells_new (W : World) (cs : List Value) (t : TypeId) : ∀ (j : Nat) (u : Value), cs[j]? = some u → (W.alloc (.cells cs.toArray t)).cell? ((⟨W.heap.size, 0, none⟩ : Addr).add j) = some u := by
 intro j u h
 have h1 := World.alloc_heap_new W (.cells cs.toArray t)
 have : (⟨W.heap.size, 0, none⟩ : Addr).add j = ⟨W.heap.size, j, none⟩ := by simp [Addr.add]; omega
 rw [this]
 exact cell_blk h1 (by simpa using h)

set_option maxRecDepth 100000 in
set_option maxHeartbeats 2000000 in
theorem AppendSeq_any (w : World) (gf : Nat) (lb : Array Value) (N : TypeId → Bool) (hN1 : N 42 = false) (hN2 : N 47 = false) (R : World → Prop) (L : List (Int × ByteArray)) (hL : L.length ≤ 100000)
  (eg : ∀ args w, (callFunc gf args).run Tryz.prog w = .ok (.enter gf args) w) (hR : ∀ B, St B R) (hRB : ∀ W, Below w.heap.size w W → R W)
  (hseq : SeqX Tryz.prog N gf lb pcEnc R (fun pre x _ => pre ++ [x] <+: L) (fun xs _ => xs = L) (fun _ _ => True)) :
  Calls Tryz.prog 104 #[.slice none 0 0, .func (.func gf) #[] lb] w fun e w' => ∃ v, e = .returned v ∧ PcAt w' v L ∧ Below w.heap.size w w' := by
 obtain ⟨i0, hi, hz0, hz1, hz2⟩ := info_parts Tryz.infoPc
 refine calls_of_marks Tryz.func104 rfl ?_
 simp only [Tryz.ntmps104, List.size_toArray, List.length_cons, List.length_nil, Nat.reduceAdd, Nat.reduceSub, Array.replicate_succ, Array.replicate_zero, List.push_toArray, List.append_toArray, List.nil_append, List.cons_append]
 gi_wp2_with (fail)
 have bO := Boxed.new w 42 (.slice none 0 0)
 have hB0 : Below w.heap.size w (w.alloc (.cells #[.slice none 0 0] 42)) := (Below.refl _ w).alloc (Nat.le_refl _) _
 refine range_boxX rfl eg hseq (fun _ => rfl)
  (fun pre W => (∃ v, Boxed W w.heap.size 42 v ∧ W.ownsRow w.heap.size 47 2 v pre.length (pre.flatMap encPc)) ∧ w.heap.size + 1 ≤ W.heap.size ∧ Below w.heap.size w W)
  (fun _ _ _ => False) ?hI (fun _ _ _ _ _ h => h) hR (fun _ _ => St.pure _) (fun _ => St.pure _) (fun _ => St.pure _) ?hsz ?h0 (hRB _ hB0)
  ?mk (fun x => (encPc x).toArray) 47 ?assign ?body ?done ?stop
 case assign =>
  intro l x j W K hj hK
  dsimp only [pcEnc, encPc] at hK ⊢
  gi_wp2
  exact hK
 case hI =>
  rintro s A C hk ⟨⟨v, h1, h2⟩, h3, h4⟩
  exact ⟨⟨v, hk.blk h1 hN1, hk.owns hN2 h2⟩, Nat.le_trans h3 hk.size, hk.below (by simp) (Nat.le_refl _) h4⟩
 case hsz => exact fun _ _ h => by have := h.2.1; simp; omega
 case h0 => exact ⟨⟨_, bO, World.ownsRow_nil _ _ _ _⟩, by simp, hB0⟩
 case body =>
  rintro l pre x j W hl2 _ ⟨⟨v, hv, hrow⟩, hsz, hB⟩ hR' hadm hj hx
  have hpl : pre.length + 1 ≤ 100000 := by
   obtain ⟨t, ht⟩ := hadm
   have := congrArg List.length ht
   simp at this; omega
  have hc := hv.cell
  dsimp only [encPc] at hx ⊢
  have x1 := cell_blk (i := 0) hx rfl
  have x2 := cell_blk (i := 1) hx rfl
  clear hadm hL
  gi_wp2_with (gi_at_builtin; go_must (refine wpListIn_append_own _ rfl _ _ 42 rfl w.heap.size 47 i0 (.agg #[.int .i64 0, .string ⟨#[]⟩]) 2 24 Tryz.underlying42 hi hz0 hz1 hz2 rfl (by decide) _ _ _ rfl (hrow.alloc _) ⟨W.heap.size, 0, none⟩ 1 1 [.int .i64 x.1, .string x.2] rfl rfl ?_ (by simp [Value.oneCell']) (by unfold maxLen; omega) (by omega) (by have := hB.size; simp; omega) ?_; rotate_left; intro v' w1 hown' hgrow _; obtain ⟨g', cap', rfl⟩ := ownsRow_succ hown'; obtain ⟨hv1, hv2, hr2, hk2, hb2⟩ := hv.appended (by decide) hrow hB.size (Nat.le_refl _) hown' hgrow; have hkx : KeepsX N w.heap.size W w1 := (KeepsX.alloc _ _ _).trans (KeepsX.grown _ hgrow (owns_type (hrow.alloc _) hN2)); have hc1 := hv1.cell; have hf1 := hv1.frozen))
  ·have hB2 := hB.trans hb2
   refine ⟨(hkx.trans (KeepsX.setCell _ hv1 hN1 _)).mono (by simp), hRB _ hB2, ⟨_, hv2, ?_⟩, Nat.le_trans hsz hb2.size, hB2⟩
   simpa [encPc] using hr2
  ·exact cells_new W _ _
 case done =>
  rintro D ys W hD rfl ⟨⟨v, hv, hrow⟩, hsz, hB⟩ hR' hK
  have hc := hv.cell
  have hsl : PcAt W v ys := ⟨sl_of_owns (enc := encPc) (fun _ _ => rfl) hrow, fun a n m e => own_typed hrow e⟩
  gi_wp2
  refine leave1 hK (fun _ _ => results_tmp rfl _ _ _) ⟨_, rfl, ?_, ?_⟩
  ·exact hsl.kept (Kept.putObj (B := 0) _ (Nat.zero_le _) hK rfl)
  ·exact (Kept.putObj (B := w.heap.size) (.deferred none) (by simp at hD; omega) hK rfl).below (Nat.le_refl _) (Nat.le_refl _) hB
 case stop =>
  rintro D c pre W _ _ h _
  exact h.elim

set_option maxRecDepth 100000 in
set_option maxHeartbeats 2000000 in
theorem Collect_any (w : World) (gf : Nat) (lb : Array Value) (N : TypeId → Bool) (hN1 : N 42 = false) (hN2 : N 47 = false) (R : World → Prop) (L : List (Int × ByteArray)) (hL : L.length ≤ 100000)
  (eg : ∀ args w, (callFunc gf args).run Tryz.prog w = .ok (.enter gf args) w) (hR : ∀ B, St B R) (hRB : ∀ W, Below w.heap.size w W → R W)
  (hseq : SeqX Tryz.prog N gf lb pcEnc R (fun pre x _ => pre ++ [x] <+: L) (fun xs _ => xs = L) (fun _ _ => True)) :
  Calls Tryz.prog 78 #[.func (.func gf) #[] lb] w fun e w' => ∃ v, e = .returned v ∧ PcAt w' v L ∧ Below w.heap.size w w' := by
 have hc := hid (AppendSeq_any w gf lb N hN1 hN2 R L hL eg hR hRB hseq)
 clear hseq eg
 go_enter Tryz.func78, Tryz.ntmps78
 go_wp2_with (fail)
 refine hc.out.mono ?_
 rintro e w' ⟨v, rfl, h1, h2⟩
 go_wp2
 go_ret
 exact ⟨_, rfl, h1, h2⟩
end Go.Proofs.YtempicociampoaaGreatDoor
namespace Go.Proofs.YtempicociampoaaGreatDoor
open Go.RowKit

/-- all cells stand but the iterator's boxes, and whatever else lies below B -/
structure KeptB (N : Nat → Bool) (B : Nat) (A C : World) : Prop where
 os : C.os = A.os
 tape : C.tape = A.tape
 output : C.output = A.output
 size : A.heap.size ≤ C.heap.size
 same : ∀ k o, A.heap[k]? = some o → N k = false → (o.isCells = true ∨ k < B) → C.heap[k]? = some o

theorem Kept.b {N : Nat → Bool} {B : Nat} {A C : World} (h : Kept B A C) : KeptB N B A C := ⟨h.os, h.tape, h.output, h.size, fun k o hk _ ho => h.same k o hk ho⟩
theorem KeptB.mono {N : Nat → Bool} {B B' : Nat} {A C : World} (h : KeptB N B A C) (hB : B' ≤ B) : KeptB N B' A C := ⟨h.os, h.tape, h.output, h.size, fun k o hk hn ho => h.same k o hk hn (ho.imp id (fun h => by omega))⟩
theorem KeptB.refl {N : Nat → Bool} (B : Nat) (A : World) : KeptB N B A A := ⟨rfl, rfl, rfl, Nat.le_refl _, fun _ _ h _ _ => h⟩
theorem KeptB.trans {N : Nat → Bool} {B : Nat} {A C D : World} (h : KeptB N B A C) (k : KeptB N B C D) : KeptB N B A D :=
 ⟨k.os.trans h.os, k.tape.trans h.tape, k.output.trans h.output, Nat.le_trans h.size k.size, fun i o hi hn ho => k.same i o (h.same i o hi hn ho) hn ho⟩
theorem KeptB.setCell {N : Nat → Bool} (B : Nat) (W : World) {b i : Nat} (hN : N b = true) (x : Value) : KeptB N B W (W.setCell ⟨b, i, none⟩ x) :=
 ⟨rfl, rfl, rfl, by simp [World.setCell], fun k o hk hn _ => by
  have e : k ≠ b := by rintro rfl; rw [hN] at hn; cases hn
  exact (setCell_off e).trans hk⟩
theorem KeptB.below {N : Nat → Bool} {B n₀ : Nat} {w0 A C : World} (h : KeptB N B A C) (hn : n₀ ≤ B) (hn0 : n₀ ≤ w0.heap.size) (hN : ∀ k, k < n₀ → N k = false) (hb : Below n₀ w0 A) : Below n₀ w0 C :=
 ⟨h.os.trans hb.os, h.tape.trans hb.tape, h.output.trans hb.output, Nat.le_trans hb.size h.size, fun k hk => by
  have e := hb.block k hk
  obtain ⟨o, ho⟩ : ∃ o, A.heap[k]? = some o := by
   have : k < A.heap.size := Nat.lt_of_lt_of_le (Nat.lt_of_lt_of_le hk hn0) hb.size
   exact ⟨_, Array.getElem?_eq_getElem this⟩
  rw [h.same k o ho (hN k hk) (.inr (by omega)), ← ho, e]⟩
theorem KeptB.blk {N : Nat → Bool} {B b : Nat} {A C : World} (h : KeptB N B A C) {cs : Array Value} {t : TypeId} {fr : Nat × Nat} (hc : A.heap[b]? = some (.cells cs t fr)) (ht : N b = false) : C.heap[b]? = some (.cells cs t fr) :=
 h.same _ _ hc ht (.inl rfl)
theorem KeptB.owns {N : Nat → Bool} {B : Nat} {A C : World} (hk : KeptB N B A C) {base : Nat} {e : TypeId} {size : Nat} {v : Value} {n : Nat} {xs : List Value} (ht : ∀ k, base ≤ k → N k = false) (h : A.ownsRow base e size v n xs) : C.ownsRow base e size v n xs := by
 obtain ⟨h1, h2⟩ := h
 refine ⟨h1, ?_⟩
 rcases h2 with h2 | ⟨g, cap, cur, hv, hg, hh, r⟩
 ·exact .inl h2
 ·exact .inr ⟨g, cap, cur, hv, hg, hk.same _ _ hh (ht _ hg) (.inl rfl), r⟩

def StB (N : Nat → Bool) (B : Nat) (I : World → Prop) : Prop := ∀ A C, KeptB N B A C → I A → I C
theorem StB.and {N : Nat → Bool} {B : Nat} {I J : World → Prop} (h : StB N B I) (k : StB N B J) : StB N B (fun W => I W ∧ J W) := fun _ _ hk ⟨a, b⟩ => ⟨h _ _ hk a, k _ _ hk b⟩
theorem StB.ex {N : Nat → Bool} {β : Type} {B : Nat} {I : β → World → Prop} (h : ∀ x, StB N B (I x)) : StB N B (fun W => ∃ x, I x W) := fun _ _ hk ⟨x, a⟩ => ⟨x, h x _ _ hk a⟩
theorem StB.pure {N : Nat → Bool} {B : Nat} (p : Prop) : StB N B (fun _ => p) := fun _ _ _ h => h

/-- what a round's body leaves alone: what is no cells, and the iterator's boxes -/
structure KeepsB (N : Nat → Bool) (B : Nat) (W W' : World) : Prop where
 size : W.heap.size ≤ W'.heap.size
 same : ∀ (k : Nat) (o : Obj), W.heap[k]? = some o → ((B ≤ k ∧ o.isCells = false) ∨ N k = true) → W'.heap[k]? = some o
theorem KeepsB.refl {N : Nat → Bool} (B : Nat) (W : World) : KeepsB N B W W := ⟨Nat.le_refl _, fun _ _ h _ => h⟩
theorem KeepsB.trans {N : Nat → Bool} {B : Nat} {X Y Z : World} (h : KeepsB N B X Y) (k : KeepsB N B Y Z) : KeepsB N B X Z := ⟨Nat.le_trans h.size k.size, fun i o hi ho => k.same i o (h.same i o hi ho) ho⟩
theorem KeepsB.mono {N : Nat → Bool} {B B' : Nat} {W W' : World} (h : KeepsB N B W W') (hB : B ≤ B') : KeepsB N B' W W' := ⟨h.size, fun k o h1 h2 => h.same k o h1 (h2.imp (fun h => ⟨by omega, h.2⟩) id)⟩
theorem KeepsB.alloc {N : Nat → Bool} (B : Nat) (W : World) (o : Obj) : KeepsB N B W (W.alloc o) := ⟨by simp, fun k _ hk _ => (Below.heap_alloc W o k (Array.getElem?_eq_some_iff.1 hk).1).trans hk⟩
theorem KeepsB.drew {N : Nat → Bool} (B : Nat) (W : World) : KeepsB N B W W.drew := ⟨Nat.le_refl _, fun _ _ h _ => h⟩
theorem KeepsB.of_below {N : Nat → Bool} (B : Nat) {W W' : World} (h : Below W.heap.size W W') : KeepsB N B W W' := ⟨h.size, fun k _ hk _ => (h.block k (Array.getElem?_eq_some_iff.1 hk).1).trans hk⟩
theorem KeepsB.setCell {N : Nat → Bool} (B : Nat) {W : World} {b i : Nat} {cs : Array Value} {t : TypeId} {fr : Nat × Nat} (h : W.heap[b]? = some (.cells cs t fr)) (ht : N b = false) (x : Value) : KeepsB N B W (W.setCell ⟨b, i, none⟩ x) :=
 ⟨by simp [World.setCell], fun k o hk ho => by
  by_cases e : k = b
  ·subst e; rw [h] at hk; cases hk
   rcases ho with ho | ho
   ·cases ho.2
   ·rw [ht] at ho; cases ho
  ·exact (setCell_off e).trans hk⟩
theorem KeepsB.grown {N : Nat → Bool} (B : Nat) {W W' : World} {base : Nat} {e : TypeId} {size : Nat} {v : Value} {n : Nat} {xs : List Value} (h : W.ownsRow base e size v n xs) (hN : ∀ k, base ≤ k → N k = false) (hg : W.grownBy W' v.ownBlock) : KeepsB N B W W' :=
 ⟨hg.size, fun k o hk ho => by
  by_cases e : some k = v.ownBlock
  ·rcases h.2 with ⟨rfl, _⟩ | ⟨g, cap, cur, rfl, hgM, hh, _⟩
   ·simp [Value.ownBlock] at e
   ·simp [Value.ownBlock] at e
    subst e
    rw [hh] at hk; cases hk
    rcases ho with ho | ho
    ·cases ho.2
    ·rw [hN _ hgM] at ho; cases ho
  ·exact (hg.block k (Array.getElem?_eq_some_iff.1 hk).1 e).trans hk⟩

section
variable {P : Program} {N : Nat → Bool} {α : Type} {g : Operand} {ps : Array Tmp} {assign body : Code} {Q : Exit → Act → World → Prop} {a : Act} {w : World} {gf : Nat} {lb : Array Value}
 {encs : α → Array Value} {Adm : List α → α → World → Prop} {S Sp : List α → World → Prop} {R R0 : World → Prop}

end

section
variable {P : Program} {N : Nat → Bool} {α : Type} {g : Operand} {ps : Array Tmp} {assign body : Code} {Q : Exit → Act → World → Prop} {a : Act} {w : World} {gf : Nat} {lb : Array Value}
 {encs : α → Array Value} {Adm : List α → α → World → Prop} {S Sp : List α → World → Prop} {R R0 : World → Prop}

end


end Go.Proofs.YtempicociampoaaGreatDoor
namespace Go.Proofs.YtempicociampoaaGreatDoor
open Go.RowKit

section
variable {tw : ByteArray → Int}
theorem gapK_snoc {ps : List (Int × ByteArray)} {p : Int × ByteArray} {k : Nat} (h : k < ps.length) : gapK tw (ps ++ [p]) k = gapK tw ps k := by
 have := gapK_take (tw := tw) (ps := ps ++ [p]) (k := k) (m := ps.length) h
 rw [List.take_left] at this
 exact this.symm
theorem gapK_last (ps : List (Int × ByteArray)) (p : Int × ByteArray) : gapK tw (ps ++ [p]) ps.length = (decide (0 < ps.length) && !decide (endW tw ps = p.1)) := by
 unfold gapK
 rw [List.take_left, List.getD_eq_getElem?_getD, List.getElem?_append_right (Nat.le_refl _), Nat.sub_self]; rfl
/-- glues stand only behind the first c pieces: none of the later pieces stands apart -/
theorem Lw.gaps {d : Int} {s : Sm} (h2 : 0 ≤ s.y) (h3 : 0 ≤ s.z) {c : Nat} {m : List It} {st : Option Bool} (h : Lw tw m st) :
  (∀ m' x r, m = m' ++ x :: r → x.kind = 2 → (pcsOf d s m').length ≤ c) → (∀ k, c < k → k < (pcsOf d s m).length → gapK tw (pcsOf d s m) k = false) ∧ (st = some true → (pcsOf d s m).length ≤ c) := by
 induction h with
 | nil => intro _; exact ⟨fun k _ h => by simp [pcsOf, pcs] at h, fun h => by cases h⟩
 | @box m st x hm hx ih =>
  intro hc
  obtain ⟨i1, i2⟩ := ih (fun m' y r e hy => hc m' y (r ++ [x]) (by rw [e]; simp) hy)
  have ht := hm.text (d := d) h2 h3
  have e1 := pcsOf_hit d s m x hx.1 hx.2.1
  rw [e1]
  refine ⟨fun k hk hkl => ?_, fun h => by cases h⟩
  by_cases h9 : k < (pcsOf d s m).length
  ·rw [gapK_snoc h9]; exact i1 k hk h9
  ·have hkl : k < (pcsOf d s m).length + 1 := by simpa using hkl
   obtain rfl : k = (pcsOf d s m).length := by omega
   rw [gapK_last]
   cases st with
   | none => rw [ht.1] at hk; simp at hk
   | some b =>
    cases b with
    | true => have := i2 rfl; omega
    | false => rw [decide_eq_true (show endW tw (pcsOf d s m) = ((smOf m).w + moved d s (smOf m), x.text).1 from ht.2.1)]; simp
 | @emp m x hm hx ih =>
  intro hc
  obtain ⟨i1, i2⟩ := ih (fun m' y r e hy => hc m' y (r ++ [x]) (by rw [e]; simp) hy)
  rw [pcsOf_miss d s m x (fun h => h.2 hx.2.1)]
  exact ⟨i1, i2⟩
 | @glue m x hm hx ih =>
  intro hc
  obtain ⟨i1, -⟩ := ih (fun m' y r e hy => hc m' y (r ++ [x]) (by rw [e]; simp) hy)
  have hk := hx.1
  rw [pcsOf_miss d s m x (fun h => by omega)]
  exact ⟨i1, fun _ => hc m x [] rfl hk⟩
 | @pen m st x hm hx ih =>
  intro hc
  obtain ⟨i1, i2⟩ := ih (fun m' y r e hy => hc m' y (r ++ [x]) (by rw [e]; simp) hy)
  have hk := hx.1
  rw [pcsOf_miss d s m x (fun h => by omega)]
  exact ⟨i1, i2⟩
/-- of a line: no later piece stands apart -/
theorem Wl.gaps {l : List It} (hl : Wl tw l) {f t c : Nat} (hf : stp l f) (hft : f < t) (h1 : t ≤ l.length) (h2 : ∀ x, l[t]? = some x → x.kind ≠ 1) {d : Int} {s : Sm} (hy : 0 ≤ s.y) (hz : 0 ≤ s.z)
  (hc : ∀ m' x r, mid l f t = m' ++ x :: r → x.kind = 2 → (pcsOf d s m').length ≤ c) : ∀ k, c < k → k < (allPcs d s l f t).length → gapK tw (allPcs d s l f t) k = false := by
 obtain ⟨x, hx, hxb⟩ := hl.ahead (by omega) h1 h2
 have hw := (hl.lw hf (t - 1) (by omega) x hx).1 hxb
 rw [show t - 1 + 1 = t by omega] at hw
 obtain ⟨g1, -⟩ := hw.gaps (d := d) (s := s) hy hz hc
 have ht := hw.text (d := d) hy hz
 intro k hk hkl
 unfold allPcs at hkl ⊢
 by_cases hp : isPen l t = true
 ·rw [if_pos hp] at hkl ⊢
  by_cases h9 : k < (pcsOf d s (mid l f t)).length
  ·rw [gapK_snoc h9]; exact g1 k hk h9
  ·have hkl : k < (pcsOf d s (mid l f t)).length + 1 := by simpa using hkl
   obtain rfl : k = (pcsOf d s (mid l f t)).length := by omega
   rw [gapK_last, decide_eq_true (show endW tw (pcsOf d s (mid l f t)) = ((smOf (mid l f t)).w + moved d s (smOf (mid l f t)), dash).1 from ht.2.1)]; simp
 ·rw [if_neg hp, List.append_nil] at hkl ⊢
  exact g1 k hk hkl
theorem foldl_y : ∀ (m : List It) (a : Sm), a.y ≤ (m.foldl Sm.step a).y
 | [], _ => Int.le_refl _
 | x :: m, a => by
  have := foldl_y m (a.step x)
  have h1 := (plain_bd x.y).1
  have h2 : (a.step x).y = a.y + plain x.y := rfl
  rw [List.foldl_cons]
  omega
/-- of no stretch there is no space -/
theorem no_space {m : List It} (h : (smOf m).y = 0) : ∀ x ∈ m, plain x.y = 0 := fun x hx => by
 obtain ⟨a, b, rfl⟩ := List.append_of_mem hx
 unfold smOf at h
 rw [List.foldl_append, List.foldl_cons] at h
 have h1 := foldl_y b (Sm.step (a.foldl Sm.step ⟨0, 0, 0⟩) x)
 have h2 := foldl_y a ⟨0, 0, 0⟩
 have h3 : (Sm.step (a.foldl Sm.step ⟨0, 0, 0⟩) x).y = (a.foldl Sm.step ⟨0, 0, 0⟩).y + plain x.y := rfl
 have h4 := (plain_bd x.y).1
 dsimp only at h2
 omega
end
end Go.Proofs.YtempicociampoaaGreatDoor
namespace Go.Proofs.YtempicociampoaaGreatDoor
open Go.RowKit Go.Shelf

end Go.Proofs.YtempicociampoaaGreatDoor
