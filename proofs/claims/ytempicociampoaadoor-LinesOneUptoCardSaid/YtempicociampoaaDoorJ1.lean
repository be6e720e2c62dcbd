/- Plain laws of lines that are set: items, sums, pieces. The walk of slices.AppendSeq and Collect, of pieces. The walks of slices.AppendSeq and Collect, of items whose iterator keeps a list of its own. -/
import Derived.Test.YtempicociampoaaDoorLib
import Derived.Test.YtempicociampoaaDoorJ0
namespace Go.Proofs.YtempicociampoaaDoor
open Go.RowKit

structure It where
  kind : Int
  w : Int
  y : Int
  z : Int
  cost : Int
  text : ByteArray

def encIt (x : It) : List Value := [.int .i64 x.kind, .int .i64 x.w, .int .i64 x.y, .int .i64 x.z, .int .i64 x.cost, .string x.text]
def encPc (x : Int × ByteArray) : List Value := [.int .i64 x.1, .string x.2]

/-- numbers that a machine's word holds -/
def w64 (n : Int) : Prop := -9223372036854775808 ≤ n ∧ n ≤ 9223372036854775807
def It.ok (x : It) : Prop := w64 x.kind ∧ w64 x.w ∧ w64 x.y ∧ w64 x.z ∧ w64 x.cost

def plain (n : Int) : Int := if 0 ≤ n ∧ n ≤ 10000 then n else 0
theorem plain_bd (n : Int) : 0 ≤ plain n ∧ plain n ≤ 10000 := by unfold plain; split <;> omega
theorem plain_eq {n : Int} (h1 : 0 ≤ n) (h2 : n ≤ 10000) : plain n = n := if_pos ⟨h1, h2⟩
theorem plain_out {n : Int} (h : n < 0 ∨ 10000 < n) : plain n = 0 := if_neg (by omega)

/-- the first Box from k on -/
def fst (l : List It) (k : Nat) : Nat := min (k + (l.drop k).findIdx (fun x => x.kind == 1)) l.length
theorem fst_end {l : List It} {k : Nat} (h : l.length ≤ k) : fst l k = l.length := by unfold fst; omega
theorem fst_hit {l : List It} {k : Nat} (h : k < l.length) (hk : l[k].kind = 1) : fst l k = k := by
  unfold fst
  rw [List.drop_eq_getElem_cons h, List.findIdx_cons]
  simp [hk]; omega
theorem fst_next {l : List It} {k : Nat} (h : k < l.length) (hk : ¬ l[k].kind = 1) : fst l k = fst l (k + 1) := by
  unfold fst
  rw [List.drop_eq_getElem_cons h, List.findIdx_cons]
  have : (l[k].kind == 1) = false := by simpa using hk
  simp [this]; omega
theorem fst_le (l : List It) (k : Nat) : fst l k ≤ l.length := by unfold fst; omega
/-- where First begins: behind a break -/
def from1 (n : Int) (len : Nat) : Nat := (max (-1) (min n len) + 1).toNat
def firstL (l : List It) (n : Int) : Nat := fst l (from1 n l.length)
def upto (n : Int) (len : Nat) : Nat := (max 0 (min n len)).toNat

structure Sm where
  w : Int
  y : Int
  z : Int
  deriving DecidableEq
def Sm.step (s : Sm) (x : It) : Sm := ⟨if x.kind = 3 then s.w else s.w + plain x.w, s.y + plain x.y, s.z + plain x.z⟩
def smOf (l : List It) : Sm := l.foldl Sm.step ⟨0, 0, 0⟩
theorem smOf_snoc (l : List It) (x : It) : smOf (l ++ [x]) = (smOf l).step x := by simp [smOf]
def Sm.bd (s : Sm) (n : Nat) : Prop := (0 ≤ s.w ∧ s.w ≤ 10000 * n) ∧ (0 ≤ s.y ∧ s.y ≤ 10000 * n) ∧ (0 ≤ s.z ∧ s.z ≤ 10000 * n)
theorem Sm.bd_step {s : Sm} {n : Nat} (h : s.bd n) (x : It) : (s.step x).bd (n + 1) := by
  have h1 := plain_bd x.w
  have h2 := plain_bd x.y
  have h3 := plain_bd x.z
  obtain ⟨⟨a, b⟩, ⟨c, d⟩, ⟨e, f⟩⟩ := h
  refine ⟨?_, ?_, ?_⟩
  · show 0 ≤ (if x.kind = 3 then s.w else s.w + plain x.w) ∧ (if x.kind = 3 then s.w else s.w + plain x.w) ≤ _
    split <;> omega
  · show 0 ≤ s.y + plain x.y ∧ s.y + plain x.y ≤ _; omega
  · show 0 ≤ s.z + plain x.z ∧ s.z + plain x.z ≤ _; omega
theorem smOf_bd (l : List It) : (smOf l).bd l.length := by
  have key : ∀ (l : List It) (s : Sm) (n : Nat), s.bd n → (l.foldl Sm.step s).bd (n + l.length) := by
    intro l
    induction l with
    | nil => intro s n h; exact h
    | cons x l ih =>
      intro s n h
      have := ih _ _ (Sm.bd_step h x)
      rw [List.length_cons, show n + (l.length + 1) = n + 1 + l.length by omega]
      exact this
  have := key l ⟨0, 0, 0⟩ 0 ⟨by simp, by simp, by simp⟩
  rwa [Nat.zero_add] at this

/-- the items from f up to t -/
def mid (l : List It) (f t : Nat) : List It := (l.take t).drop f
theorem mid_self (l : List It) (f : Nat) : mid l f f = [] := by
  unfold mid; rw [List.drop_eq_nil_iff]; simp; omega
theorem mid_succ {l : List It} {f t : Nat} (h : f ≤ t) (ht : t < l.length) : mid l f (t + 1) = mid l f t ++ [l[t]] := by
  unfold mid
  rw [List.take_succ_eq_append_getElem ht, List.drop_append_of_le_length (by simp; omega)]
theorem mid_len (l : List It) (f t : Nat) : (mid l f t).length ≤ l.length := by unfold mid; simp; omega
theorem smMid_bd (l : List It) (f t : Nat) : (smOf (mid l f t)).bd l.length := by
  obtain ⟨⟨a, b⟩, ⟨c, d⟩, ⟨e, g⟩⟩ := smOf_bd (mid l f t)
  have := mid_len l f t
  refine ⟨⟨a, by omega⟩, ⟨c, by omega⟩, ⟨e, by omega⟩⟩

def isPen (l : List It) (t : Nat) : Bool := match l[t]? with | some x => x.kind == 3 | none => false
def penW (l : List It) (t : Nat) : Int := match l[t]? with | some x => if x.kind = 3 then plain x.w else 0 | none => 0
theorem penW_bd (l : List It) (t : Nat) : 0 ≤ penW l t ∧ penW l t ≤ 10000 := by
  unfold penW; split
  · split
    · exact plain_bd _
    · omega
  · omega
theorem penW_yes {l : List It} {t : Nat} (h : t < l.length) (hk : l[t].kind = 3) : penW l t = plain l[t].w := by
  unfold penW; rw [List.getElem?_eq_getElem h]; exact if_pos hk
theorem penW_no {l : List It} {t : Nat} (h : t < l.length) (hk : ¬ l[t].kind = 3) : penW l t = 0 := by
  unfold penW; rw [List.getElem?_eq_getElem h]; exact if_neg hk
theorem penW_end {l : List It} {t : Nat} (h : l.length ≤ t) : penW l t = 0 := by
  unfold penW; rw [List.getElem?_eq_none h]
def lineSm (l : List It) (f t : Nat) : Sm := if f < t then ⟨(smOf (mid l f t)).w + penW l t, (smOf (mid l f t)).y, (smOf (mid l f t)).z⟩ else ⟨0, 0, 0⟩
theorem lineSm_bd (l : List It) (f t : Nat) : (lineSm l f t).bd (l.length + 1) := by
  obtain ⟨⟨a, b⟩, ⟨c, d⟩, ⟨e, g⟩⟩ := smMid_bd l f t
  have := penW_bd l t
  unfold lineSm; split
  · exact ⟨⟨by simp only []; omega, by simp only []; omega⟩, ⟨by simp only []; omega, by simp only []; omega⟩, ⟨by simp only []; omega, by simp only []; omega⟩⟩
  · exact ⟨⟨by simp, by simp only []; omega⟩, ⟨by simp, by simp only []; omega⟩, ⟨by simp, by simp only []; omega⟩⟩

def spread (d a all : Int) : Int := if all = 0 then 0 else (d * a).tdiv all
def moved (d : Int) (s a : Sm) : Int := if 0 ≤ d then spread d a.y s.y else -(spread (min (-d) s.z) a.z s.z)

/-- pieces of items, with what stands ahead -/
def pcs (d : Int) (s : Sm) : Sm → List It → List (Int × ByteArray)
  | _, [] => []
  | a, x :: r => if x.kind = 1 ∧ x.text.size ≠ 0 then (a.w + moved d s a, x.text) :: pcs d s (a.step x) r else pcs d s (a.step x) r
theorem pcs_append (d : Int) (s : Sm) : ∀ (l m : List It) (a : Sm), pcs d s a (l ++ m) = pcs d s a l ++ pcs d s (l.foldl Sm.step a) m := by
  intro l
  induction l with
  | nil => intro m a; rfl
  | cons x l ih =>
    intro m a
    simp only [List.cons_append, pcs, List.foldl_cons]
    split
    · simp [ih]
    · exact ih _ _
def pcsOf (d : Int) (s : Sm) (l : List It) : List (Int × ByteArray) := pcs d s ⟨0, 0, 0⟩ l
theorem pcsOf_hit (d : Int) (s : Sm) (l : List It) (x : It) (h : x.kind = 1) (ht : x.text.size ≠ 0) : pcsOf d s (l ++ [x]) = pcsOf d s l ++ [((smOf l).w + moved d s (smOf l), x.text)] := by
  unfold pcsOf; rw [pcs_append]; congr 1; simp only [pcs, if_pos (And.intro h ht)]; rfl
theorem pcsOf_miss (d : Int) (s : Sm) (l : List It) (x : It) (h : ¬ (x.kind = 1 ∧ x.text.size ≠ 0)) : pcsOf d s (l ++ [x]) = pcsOf d s l := by
  unfold pcsOf; rw [pcs_append]; simp only [pcs, if_neg h, List.append_nil]
def dash : ByteArray := ⟨#[45]⟩
def allPcs (d : Int) (s : Sm) (l : List It) (f t : Nat) : List (Int × ByteArray) :=
  pcsOf d s (mid l f t) ++ (if isPen l t then [((smOf (mid l f t)).w + moved d s (smOf (mid l f t)), dash)] else [])
theorem isPen_yes {l : List It} {t : Nat} (h : t < l.length) (hk : l[t].kind = 3) : isPen l t = true := by
  unfold isPen; rw [List.getElem?_eq_getElem h]; simpa using hk
theorem isPen_no {l : List It} {t : Nat} (h : t < l.length) (hk : ¬ l[t].kind = 3) : isPen l t = false := by
  unfold isPen; rw [List.getElem?_eq_getElem h]; simpa using hk
theorem isPen_end {l : List It} {t : Nat} (h : l.length ≤ t) : isPen l t = false := by
  unfold isPen; rw [List.getElem?_eq_none h]

def needOf (width : Int) (last : Bool) (s : Sm) : Int := if last then min (plain width - s.w) 0 else plain width - s.w
def setL (l : List It) (from_ to width : Int) (last : Bool) : List (Int × ByteArray) :=
  if firstL l from_ < upto to l.length then
    allPcs (needOf width last (lineSm l (firstL l from_) (upto to l.length))) (lineSm l (firstL l from_) (upto to l.length)) l (firstL l from_) (upto to l.length)
  else []
end Go.Proofs.YtempicociampoaaDoor
namespace Go.Proofs.YtempicociampoaaDoor
open Go.RowKit Go.Shelf
attribute [local go_sem] Oper.semAt_some

theorem Tryd.infoPc : (Tryd.prog.info? 38).map (fun i => (i.zero, i.size, i.bytes)) = some (some (.agg #[.int .i64 0, .string ⟨#[]⟩]), 2, 24) := by kernel_rfl
def pcEnc (x : Int × ByteArray) : Array Value := #[.agg (encPc x).toArray]

/-- pieces as they lie: in a block of pieces -/
def PcAt (W : World) (v : Value) (l : List (Int × ByteArray)) : Prop := Sl W 2 encPc v l ∧ ∀ (a : Addr) (n m : Nat), v = .slice (some a) n m → ∃ cs fr, W.heap[a.block]? = some (.cells cs 38 fr)
theorem PcAt.kept {B : Nat} {W W' : World} {v : Value} {l : List (Int × ByteArray)} (h : PcAt W v l) (hk : Kept B W W') : PcAt W' v l :=
  ⟨hk.sl h.1, fun a n m e => by obtain ⟨cs, fr, hh⟩ := h.2 a n m e; exact ⟨cs, fr, hk.same _ _ hh (.inl rfl)⟩⟩
theorem own_typed {W : World} {base : Nat} {e : TypeId} {size : Nat} {v : Value} {n : Nat} {xs : List Value} (h : W.ownsRow base e size v n xs) {a : Addr} {m c : Nat} (hv : v = .slice (some a) m c) : ∃ cs fr, W.heap[a.block]? = some (.cells cs e fr) := by
  rcases h.2 with ⟨rfl, _⟩ | ⟨g, cap, cur, rfl, hg, hh, _⟩
  · cases hv
  · cases hv; exact ⟨cur, _, hh⟩
theorem cells_new (W : World) (cs : List Value) (t : TypeId) : ∀ (j : Nat) (u : Value), cs[j]? = some u → (W.alloc (.cells cs.toArray t)).cell? ((⟨W.heap.size, 0, none⟩ : Addr).add j) = some u := by
  intro j u h
  have h1 := World.alloc_heap_new W (.cells cs.toArray t)
  have : (⟨W.heap.size, 0, none⟩ : Addr).add j = ⟨W.heap.size, j, none⟩ := by simp [Addr.add]; omega
  rw [this]
  exact cell_blk h1 (by simpa using h)

set_option maxRecDepth 100000 in
set_option maxHeartbeats 2000000 in
theorem AppendSeq_any (w : World) (gf : Nat) (lb : Array Value) (N : TypeId → Bool) (hN1 : N 34 = false) (hN2 : N 38 = false) (R : World → Prop) (L : List (Int × ByteArray)) (hL : L.length ≤ 100000)
    (eg : ∀ args w, (callFunc gf args).run Tryd.prog w = .ok (.enter gf args) w) (hR : ∀ B, St B R) (hRB : ∀ W, Below w.heap.size w W → R W)
    (hseq : SeqX Tryd.prog N gf lb pcEnc R (fun pre x _ => pre ++ [x] <+: L) (fun xs _ => xs = L) (fun _ _ => True)) :
    Calls Tryd.prog 68 #[.slice none 0 0, .func (.func gf) #[] lb] w fun e w' => ∃ v, e = .returned v ∧ PcAt w' v L ∧ Below w.heap.size w w' := by
  obtain ⟨i0, hi, hz0, hz1, hz2⟩ := info_parts Tryd.infoPc
  refine calls_of_marks Tryd.func68 rfl ?_
  simp only [Tryd.ntmps68, List.size_toArray, List.length_cons, List.length_nil, Nat.reduceAdd, Nat.reduceSub, Array.replicate_succ, Array.replicate_zero, List.push_toArray, List.append_toArray, List.nil_append, List.cons_append]
  gi_wp2_with (fail)
  have bO := Boxed.new w 34 (.slice none 0 0)
  have hB0 : Below w.heap.size w (w.alloc (.cells #[.slice none 0 0] 34)) := (Below.refl _ w).alloc (Nat.le_refl _) _
  refine range_boxX rfl eg hseq (fun _ => rfl)
    (fun pre W => (∃ v, Boxed W w.heap.size 34 v ∧ W.ownsRow w.heap.size 38 2 v pre.length (pre.flatMap encPc)) ∧ w.heap.size + 1 ≤ W.heap.size ∧ Below w.heap.size w W)
    (fun _ _ _ => False) ?hI (fun _ _ _ _ _ h => h) hR (fun _ _ => St.pure _) (fun _ => St.pure _) (fun _ => St.pure _) ?hsz ?h0 (hRB _ hB0)
    ?mk (fun x => (encPc x).toArray) 38 ?assign ?body ?done ?stop
  case assign =>
    intro l x j W K hj hK
    dsimp only [pcEnc, encPc] at hK ⊢
    gi_wp2
    exact hK
  case hI =>
    rintro s A C hk ⟨⟨v, h1, h2⟩, h3, h4⟩
    exact ⟨⟨v, hk.blk h1 hN1, hk.owns hN2 h2⟩, Nat.le_trans h3 hk.size, hk.below (by simp) (Nat.le_refl _) h4⟩
  case hsz => exact fun _ _ h => by have := h.2.1; simp; omega
  case h0 => exact ⟨⟨_, bO, World.ownsRow_nil _ _ _ _⟩, by simp, hB0⟩
  case body =>
    rintro l pre x j W hl2 _ ⟨⟨v, hv, hrow⟩, hsz, hB⟩ hR' hadm hj hx
    have hpl : pre.length + 1 ≤ 100000 := by
      obtain ⟨t, ht⟩ := hadm
      have := congrArg List.length ht
      simp at this; omega
    have hc := hv.cell
    dsimp only [encPc] at hx ⊢
    have x1 := cell_blk (i := 0) hx rfl
    have x2 := cell_blk (i := 1) hx rfl
    clear hadm hL
    gi_wp2_with (gi_at_builtin; go_must (refine wpListIn_append_own _ rfl _ _ 34 rfl w.heap.size 38 i0 (.agg #[.int .i64 0, .string ⟨#[]⟩]) 2 24 Tryd.underlying34 hi hz0 hz1 hz2 rfl (by decide) _ _ _ rfl (hrow.alloc _) ⟨W.heap.size, 0, none⟩ 1 1 [.int .i64 x.1, .string x.2] rfl rfl ?_ (by simp [Value.oneCell']) (by unfold maxLen; omega) (by omega) (by have := hB.size; simp; omega) ?_; rotate_left; intro v' w1 hown' hgrow _; obtain ⟨g', cap', rfl⟩ := ownsRow_succ hown'; obtain ⟨hv1, hv2, hr2, hk2, hb2⟩ := hv.appended (by decide) hrow hB.size (Nat.le_refl _) hown' hgrow; have hkx : KeepsX N w.heap.size W w1 := (KeepsX.alloc _ _ _).trans (KeepsX.grown _ hgrow (owns_type (hrow.alloc _) hN2)); have hc1 := hv1.cell; have hf1 := hv1.frozen))
    · have hB2 := hB.trans hb2
      refine ⟨(hkx.trans (KeepsX.setCell _ hv1 hN1 _)).mono (by simp), hRB _ hB2, ⟨_, hv2, ?_⟩, Nat.le_trans hsz hb2.size, hB2⟩
      simpa [encPc] using hr2
    · exact cells_new W _ _
  case done =>
    rintro D ys W hD rfl ⟨⟨v, hv, hrow⟩, hsz, hB⟩ hR' hK
    have hc := hv.cell
    have hsl : PcAt W v ys := ⟨sl_of_owns (enc := encPc) (fun _ _ => rfl) hrow, fun a n m e => own_typed hrow e⟩
    gi_wp2
    refine leave1 hK (fun _ _ => results_tmp rfl _ _ _) ⟨_, rfl, ?_, ?_⟩
    · exact hsl.kept (Kept.putObj (B := 0) _ (Nat.zero_le _) hK rfl)
    · exact (Kept.putObj (B := w.heap.size) (.deferred none) (by simp at hD; omega) hK rfl).below (Nat.le_refl _) (Nat.le_refl _) hB
  case stop =>
    rintro D c pre W _ _ h _
    exact h.elim

set_option maxRecDepth 100000 in
set_option maxHeartbeats 2000000 in
theorem Collect_any (w : World) (gf : Nat) (lb : Array Value) (N : TypeId → Bool) (hN1 : N 34 = false) (hN2 : N 38 = false) (R : World → Prop) (L : List (Int × ByteArray)) (hL : L.length ≤ 100000)
    (eg : ∀ args w, (callFunc gf args).run Tryd.prog w = .ok (.enter gf args) w) (hR : ∀ B, St B R) (hRB : ∀ W, Below w.heap.size w W → R W)
    (hseq : SeqX Tryd.prog N gf lb pcEnc R (fun pre x _ => pre ++ [x] <+: L) (fun xs _ => xs = L) (fun _ _ => True)) :
    Calls Tryd.prog 48 #[.func (.func gf) #[] lb] w fun e w' => ∃ v, e = .returned v ∧ PcAt w' v L ∧ Below w.heap.size w w' := by
  have hc := hid (AppendSeq_any w gf lb N hN1 hN2 R L hL eg hR hRB hseq)
  clear hseq eg
  go_enter Tryd.func48, Tryd.ntmps48
  go_wp2_with (fail)
  refine hc.out.mono ?_
  rintro e w' ⟨v, rfl, h1, h2⟩
  go_wp2
  go_ret
  exact ⟨_, rfl, h1, h2⟩
end Go.Proofs.YtempicociampoaaDoor
namespace Go.Proofs.YtempicociampoaaDoor
open Go.RowKit Go.Shelf
attribute [local go_sem] Oper.semAt_some
theorem Tryd.infoIt : (Tryd.prog.info? 83).map (fun i => (i.zero, i.size, i.bytes)) = some (some (.agg #[.int .i64 0, .int .i64 0, .int .i64 0, .int .i64 0, .int .i64 0, .string ⟨#[]⟩]), 6, 56) := by kernel_rfl
def itEnc (x : It) : Array Value := #[.agg (encIt x).toArray]

theorem owns_downM {W : World} {b b' : Nat} {e : TypeId} {size : Nat} {v : Value} {n : Nat} {xs : List Value} (hb : b' ≤ b) (h : W.ownsRow b e size v n xs) : W.ownsRow b' e size v n xs := by
  obtain ⟨h1, h2⟩ := h
  refine ⟨h1, ?_⟩
  rcases h2 with h2 | ⟨g, cap, cur, hv, hg, r⟩
  · exact .inl h2
  · exact .inr ⟨g, cap, cur, hv, Nat.le_trans hb hg, r⟩

set_option maxRecDepth 100000 in
set_option maxHeartbeats 2000000 in
theorem AppendSeqM_any (w : World) (gf : Nat) (lb : Array Value) (R : World → Prop) (L : List It) (hL : L.length ≤ 100000)
    (eg : ∀ args w, (callFunc gf args).run Tryd.prog w = .ok (.enter gf args) w) (hR : ∀ B, St B R) (hRB : ∀ W, Below w.heap.size w W → R W)
    (hseq : SeqM Tryd.prog gf lb itEnc R (fun pre x _ => pre ++ [x] <+: L) (fun xs _ => xs = L) (fun _ _ => True)) :
    Calls Tryd.prog 50 #[.slice none 0 0, .func (.func gf) #[] lb] w fun e w' => ∃ v, e = .returned v ∧ Sl w' 6 encIt v L ∧ w'.ownsRow w.heap.size 83 6 v L.length (L.flatMap encIt) ∧ Below w.heap.size w w' := by
  obtain ⟨i0, hi, hz0, hz1, hz2⟩ := info_parts Tryd.infoIt
  refine calls_of_marks Tryd.func50 rfl ?_
  simp only [Tryd.ntmps50, List.size_toArray, List.length_cons, List.length_nil, Nat.reduceAdd, Nat.reduceSub, Array.replicate_succ, Array.replicate_zero, List.push_toArray, List.append_toArray, List.nil_append, List.cons_append]
  gi_wp2_with (fail)
  have bO := Boxed.new w 51 (.slice none 0 0)
  have hB0 : Below w.heap.size w (w.alloc (.cells #[.slice none 0 0] 51)) := (Below.refl _ w).alloc (Nat.le_refl _) _
  refine range_boxM rfl eg hseq (fun _ => rfl)
    (fun M pre W => (∃ v, Boxed W w.heap.size 51 v ∧ W.ownsRow M 83 6 v pre.length (pre.flatMap encIt)) ∧ M ≤ W.heap.size ∧ w.heap.size ≤ M ∧ w.heap.size + 1 ≤ W.heap.size ∧ Below w.heap.size w W)
    (fun W => Boxed W w.heap.size 51 (.slice none 0 0) ∧ w.heap.size + 1 ≤ W.heap.size ∧ Below w.heap.size w W)
    (fun _ _ _ => False) ?hI ?hI0 ?hI1 (fun _ _ _ _ _ h => h) hR (fun _ _ => St.pure _) (fun _ => St.pure _) (fun _ => St.pure _) ?hsz ?h0 (hRB _ hB0)
    ?mk (fun x => (encIt x).toArray) 83 ?assign ?body ?done ?stop
  case assign =>
    intro l x j W K hj hK
    dsimp only [itEnc, encIt] at hK ⊢
    gi_wp2
    exact hK
  case hI =>
    rintro M s A C hk ⟨⟨v, h1, h2⟩, h5, h6, h3, h4⟩
    exact ⟨⟨v, hk.same _ _ h1 (.inl rfl), hk.owns h2⟩, Nat.le_trans h5 hk.size, h6, Nat.le_trans h3 hk.size, hk.below (by simp) (Nat.le_refl _) h4⟩
  case hI0 =>
    rintro A C hk ⟨h1, h3, h4⟩
    exact ⟨hk.same _ _ h1 (.inl rfl), Nat.le_trans h3 hk.size, hk.below (by simp) (Nat.le_refl _) h4⟩
  case hI1 =>
    rintro M W ⟨h1, h3, h4⟩ hM0 hM
    exact ⟨⟨_, h1, World.ownsRow_nil _ _ _ _⟩, hM, by simp at hM0; omega, h3, h4⟩
  case hsz => exact fun _ _ _ h => by have := h.2.2.2.1; simp; omega
  case h0 => exact ⟨bO, by simp, hB0⟩
  case body =>
    rintro l M pre x j W hl2 hM1 _ ⟨⟨v, hv, hrow⟩, hMs, -, hsz, hB⟩ hR' hadm hj hx
    have hpl : pre.length + 1 ≤ 100000 := by
      obtain ⟨t, ht⟩ := hadm
      have := congrArg List.length ht
      simp at this; omega
    have hMw : w.heap.size + 1 ≤ M := by simpa using hM1
    have hc := hv.cell
    dsimp only [encIt] at hx ⊢
    have x1 := cell_blk (i := 0) hx rfl
    have x2 := cell_blk (i := 1) hx rfl
    have x3 := cell_blk (i := 2) hx rfl
    have x4 := cell_blk (i := 3) hx rfl
    have x5 := cell_blk (i := 4) hx rfl
    have x6 := cell_blk (i := 5) hx rfl
    clear hadm hL hM1
    gi_wp2_with (gi_at_builtin; go_must (refine wpListIn_append_own _ rfl _ _ 51 rfl M 83 i0 (.agg #[.int .i64 0, .int .i64 0, .int .i64 0, .int .i64 0, .int .i64 0, .string ⟨#[]⟩]) 6 56 Tryd.underlying51 hi hz0 hz1 hz2 rfl (by decide) _ _ _ rfl (hrow.alloc _) ⟨W.heap.size, 0, none⟩ 1 1 [.int .i64 x.kind, .int .i64 x.w, .int .i64 x.y, .int .i64 x.z, .int .i64 x.cost, .string x.text] rfl rfl ?_ (by simp [Value.oneCell']) (by unfold maxLen; omega) (by omega) (by simp; omega) ?_; rotate_left; intro v' w1 hown' hgrow _; obtain ⟨g', cap', rfl⟩ := ownsRow_succ hown'; obtain ⟨hv1, hv2, hr2, hk2, hb2⟩ := hv.appended (by decide) (owns_downM (b' := w.heap.size) (by omega) hrow) hB.size (Nat.le_refl _) (owns_downM (b' := w.heap.size) (by omega) hown') hgrow; have hkx : KeepsM M (w.heap.size + 1) W w1 := (KeepsM.alloc _ _ _ _).trans (KeepsM.grown _ (hrow.alloc _) hgrow); have hc1 := hv1.cell; have hf1 := hv1.frozen))
    · have hB2 := hB.trans hb2
      have hg2 : M ≤ (w1.setCell ⟨w.heap.size, 0, none⟩ (.slice (some ⟨g', 0, none⟩) (pre.length + 1) cap')).heap.size := Nat.le_trans hMs hb2.size
      refine ⟨(hkx.trans (KeepsM.setCell _ _ hv1 (.inl (by omega)) _)).mono (by simp), hRB _ hB2, ⟨_, hv2, ?_⟩, hg2, by omega, Nat.le_trans hsz hb2.size, hB2⟩
      have hne : w.heap.size < M := by omega
      obtain ⟨o1, o2⟩ := hown'
      refine ⟨by simpa [encIt] using hr2.1, ?_⟩
      rcases o2 with ⟨e0, e1⟩ | ⟨g, cap, cur, e0, hg, hh, r⟩
      · cases e0
      · cases e0
        refine .inr ⟨g', cap', cur, by simp, hg, (setCell_off (by omega)).trans hh, ?_⟩
        simpa [encIt] using r
    · exact cells_new W _ _
  case done =>
    rintro D M ys W hD rfl ⟨⟨v, hv, hrow⟩, hMs, hMb, hsz, hB⟩ hR' hK
    have hc := hv.cell
    have hrow2 := owns_downM hMb hrow
    have hsl := sl_of_owns (enc := encIt) (fun _ _ => rfl) hrow
    gi_wp2
    refine leave1 hK (fun _ _ => results_tmp rfl _ _ _) ⟨_, rfl, ?_, ?_, ?_⟩
    · exact (Kept.putObj (B := 0) _ (Nat.zero_le _) hK rfl).sl hsl
    · exact (Kept.putObj (B := 0) _ (Nat.zero_le _) hK rfl).owns hrow2
    · exact (Kept.putObj (B := w.heap.size) (.deferred none) (by simp at hD; omega) hK rfl).below (Nat.le_refl _) (Nat.le_refl _) hB
  case stop =>
    rintro D c pre W _ _ h _
    exact h.elim

set_option maxRecDepth 100000 in
set_option maxHeartbeats 2000000 in
theorem CollectM_any (w : World) (gf : Nat) (lb : Array Value) (R : World → Prop) (L : List It) (hL : L.length ≤ 100000)
    (eg : ∀ args w, (callFunc gf args).run Tryd.prog w = .ok (.enter gf args) w) (hR : ∀ B, St B R) (hRB : ∀ W, Below w.heap.size w W → R W)
    (hseq : SeqM Tryd.prog gf lb itEnc R (fun pre x _ => pre ++ [x] <+: L) (fun xs _ => xs = L) (fun _ _ => True)) :
    Calls Tryd.prog 33 #[.func (.func gf) #[] lb] w fun e w' => ∃ v, e = .returned v ∧ Sl w' 6 encIt v L ∧ w'.ownsRow w.heap.size 83 6 v L.length (L.flatMap encIt) ∧ Below w.heap.size w w' := by
  have hc := hid (AppendSeqM_any w gf lb R L hL eg hR hRB hseq)
  clear hseq eg
  go_enter Tryd.func33, Tryd.ntmps33
  go_wp2_with (fail)
  refine hc.out.mono ?_
  rintro e w' ⟨v, rfl, h1, h2, h3⟩
  go_wp2
  go_ret
  exact ⟨_, rfl, h1, h2, h3⟩
end Go.Proofs.YtempicociampoaaDoor
