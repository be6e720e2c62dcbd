/- The walk of hyphen's iterator of patterns. -/
import Derived.Test.YtempicociampoaaGreatDoorJ12
import Derived.Test.YtempicociampoaaGreatDoorJ11
import Derived.Lib.ConvBytes
import Derived.Lib.SmallJoins
import Derived.Test.YtempicociampoaaGreatDoorJ3
import Derived.Sort.CutIn
namespace Go.Proofs.YtempicociampoaaGreatDoor
open Go.RowKit Go.Shelf
attribute [local go_sem] Oper.semAt_some

set_option maxHeartbeats 400000 in
theorem FieldsSeq_any (S : ByteArray) (w : World) :
  Calls Tryz.prog 132 #[.string S] w fun e w' => e = .returned (.func (.func 134) #[] #[.pointer (some ⟨w.heap.size, 0, none⟩)]) ∧ w' = w.alloc (.cells #[.string S] 9) := by
 go_enter Tryz.func132, Tryz.ntmps132
 go_wp2
 go_ret
 exact ⟨rfl, rfl⟩

/-- a cell of a row that the call owns is written -/
theorem owns_set {W : World} {base : Nat} {e : TypeId} {p : Option Addr} {n c : Nat} {xs : List Value} (h : W.ownsRow base e 1 (.slice p n c) n xs) {i : Nat} (hi : i < n) (x : Value) :
  ∃ g, p = some ⟨g, 0, none⟩ ∧ base ≤ g ∧ (∃ x0, W.cell? ⟨g, i, none⟩ = some x0) ∧ W.frozen? ⟨g, i, none⟩ = false ∧ (W.setCell ⟨g, i, none⟩ x).ownsRow base e 1 (.slice p n c) n (xs.set i x) ∧
   (∃ cur fr, W.heap[g]? = some (.cells cur e fr)) ∧ (∀ b cs t fr, W.heap[b]? = some (.cells cs t fr) → t ≠ e → b ≠ g) := by
 obtain ⟨h1, h2⟩ := h
 rcases h2 with ⟨-, h0⟩ | ⟨g, cap, cur, hv, hg, hh, hle, hcap, hsz, ht⟩
 ·omega
 ·cases hv
  refine ⟨g, rfl, hg, ?_, frozen_blk hh, ⟨by simpa using h1, .inr ⟨g, c, cur.setIfInBounds i x, rfl, hg, setCell_blk hh, hle, hcap, by simpa using hsz, ?_⟩⟩, ⟨cur, _, hh⟩, ?_⟩
  ·refine ⟨_, cell_blk hh (Array.getElem?_eq_getElem (by rw [hsz]; omega))⟩
  ·rw [← ht]; simp [List.take_set]
  ·rintro b cs t fr hb hte rfl
   rw [hh] at hb; cases hb; exact hte rfl
/-- a store into a block of another type leaves an own row -/
theorem owns_off {W : World} {base : Nat} {e : TypeId} {v : Value} {n : Nat} {xs : List Value} (h : W.ownsRow base e 1 v n xs) {b : Nat} {cs : Array Value} {t : TypeId} {fr : Nat × Nat} (hb : W.heap[b]? = some (.cells cs t fr)) (ht : t ≠ e) (i : Nat) (x : Value) :
  (W.setCell ⟨b, i, none⟩ x).ownsRow base e 1 v n xs := by
 obtain ⟨h1, h2⟩ := h
 refine ⟨h1, ?_⟩
 rcases h2 with h2 | ⟨g, cap, cur, hv, hg, hh, r⟩
 ·exact .inl h2
 ·refine .inr ⟨g, cap, cur, hv, hg, (setCell_off ?_).trans hh, r⟩
  rintro rfl
  rw [hb] at hh; cases hh; exact ht rfl
theorem own_addr {W : World} {base : Nat} {e : TypeId} {a : Addr} {k c n : Nat} {xs : List Value} (h : W.ownsRow base e 1 (.slice (some a) k c) n xs) : base ≤ a.block := by
 rcases h.2 with ⟨h1, -⟩ | ⟨g, cap, cur, hv, hg, -⟩
 ·cases h1
 ·cases hv; exact hg
/-- blocks of another type stand when an own row has grown -/
theorem owns_grown {W W' : World} {base : Nat} {e : TypeId} {v : Value} {n : Nat} {xs : List Value} (h : W.ownsRow base e 1 v n xs) (hg : W.grownBy W' v.ownBlock) {b : Nat} {cs : Array Value} {t : TypeId} {fr : Nat × Nat} (hb : W.heap[b]? = some (.cells cs t fr)) (ht : t ≠ e) :
  W'.heap[b]? = some (.cells cs t fr) := by
 refine (hg.block b (Array.getElem?_eq_some_iff.1 hb).1 ?_).trans hb
 intro e1
 have := owns_type (N := fun x => x == t) h (by simpa using fun e2 => ht e2.symm) b _ e1.symm hb
 simp [ownT] at this
/-- a write to a block of the iterator's own -/
theorem KeptX.setCell {N : TypeId → Bool} {B b i : Nat} {cs : Array Value} {t : TypeId} {fr : Nat × Nat} {W : World} (h : W.heap[b]? = some (.cells cs t fr)) (ht : N t = true) (hB : B ≤ b) (x : Value) : KeptX N B W (W.setCell ⟨b, i, none⟩ x) :=
 ⟨rfl, rfl, rfl, by simp [World.setCell], fun k o hk ho => by
  by_cases e : k = b
  ·subst e; rw [h] at hk; cases hk
   rcases ho with ⟨-, ho⟩ | ho
   ·rw [ownT, ht] at ho; cases ho
   ·omega
  ·exact (setCell_off e).trans hk⟩
theorem KeptX.grownOwn {N : TypeId → Bool} {B : Nat} {e : TypeId} {v : Value} {n : Nat} {xs : List Value} {W W' : World} (h : W.ownsRow B e 1 v n xs) (hN : N e = true) (hg : W.grownBy W' v.ownBlock) : KeptX N B W W' :=
 ⟨hg.os, hg.tape, hg.output, hg.size, fun k o hk ho => by
  refine (hg.block k (Array.getElem?_eq_some_iff.1 hk).1 ?_).trans hk
  intro e1
  rcases ho with ⟨-, ho⟩ | ho
  ·rcases h.2 with ⟨rfl, -⟩ | ⟨g, cap, cur, rfl, hg2, hh, -⟩
   ·simp [Value.ownBlock] at e1
   ·simp [Value.ownBlock] at e1
    subst e1
    rw [hh] at hk; cases hk
    rw [ownT, hN] at ho; cases ho
  ·rcases h.2 with ⟨rfl, -⟩ | ⟨g, cap, cur, rfl, hg2, hh, -⟩
   ·simp [Value.ownBlock] at e1
   ·simp [Value.ownBlock] at e1
    omega⟩
theorem map_encI (l : List Int) : l.flatMap encI = l.map (Value.int .i64) := by
 induction l with
 | nil => rfl
 | cons a l ih => simp only [List.flatMap_cons, List.map_cons, ih]; rfl
theorem encode_small (c : UInt8) (h : c.toNat < 128) : Utf8.encode (c.toNat : Int) = ⟨#[c]⟩ := by
 have : Utf8.valid (c.toNat : Int) = true := by simp [Utf8.valid]; omega
 unfold Utf8.encode
 simp only [this, if_true]
 rw [if_pos (by simpa using h)]
 simp

def ptEnc (x : Pat × Option Addr × Nat) : Array Value := #[.agg #[.string ⟨x.1.letters.toArray⟩, .slice x.2.1 (x.1.letters.length + 1) x.2.2]]
/-- the types of the iterator's own blocks -/
def ownPt (t : TypeId) : Bool := t == 3 || t == 9 || t == 181 || t == 183 || t == 5

set_option maxRecDepth 100000 in
set_option maxHeartbeats 4000000 in
theorem patterns1_seq (B0 : Nat) :
  SeqY Tryz.prog ownPt 131 #[] ptEnc (fun W => Asp W ∧ B0 ≤ W.heap.size) (fun pre x W => (pre ++ [x]).map Prod.fst <+: pats ∧ Sl W 1 encI (.slice x.2.1 (x.1.letters.length + 1) x.2.2) x.1.nums ∧ (∀ a, x.2.1 = some a → B0 ≤ a.block)) (fun xs _ => xs.map Prod.fst = pats) (fun _ _ => True) := by
 intro L J Jx W hJ hJx hY h0 hR0
 have hc := hid (fun w => FieldsSeq_any allB w)
 obtain ⟨i0, hi, hz0, hz1, hz2⟩ := info_parts Tryz.infoI
 refine calls_of_marks Tryz.func131 rfl ?_
 simp only [Tryz.ntmps131, List.size_toArray, List.length_cons, List.length_nil, Nat.reduceAdd, Nat.reduceSub, Array.replicate_succ, Array.replicate_zero, List.push_toArray, List.append_toArray, List.nil_append, List.cons_append]
 gi_wp2_with (fail)
 refine ⟨trivial, rfl, (callsIn_wide.2 (hc.out _)).mono ?_⟩
 rintro e w' ⟨rfl, rfl⟩
 gi_wp2_with (fail)
 have b1 := World.alloc_heap_new W (.cells #[.func (.yield L) #[] #[]] 183)
 have b2 := World.alloc_heap_new (W.alloc (.cells #[.func (.yield L) #[] #[]] 183)) (.cells #[.string allB] 9)
 rw [World.size_alloc] at b2
 have k2 : Kept W.heap.size W ((W.alloc (.cells #[.func (.yield L) #[] #[]] 183)).alloc (.cells #[.string allB] 9)) := (Kept.alloc _ _ _).trans (Kept.alloc _ _ _)
 have b1' := (Kept.alloc 0 (W.alloc (.cells #[.func (.yield L) #[] #[]] 183)) (.cells #[.string allB] 9)).same _ _ b1 (.inl rfl)
 have hz : ((W.alloc (.cells #[.func (.yield L) #[] #[]] 183)).alloc (.cells #[.string allB] 9)).heap.size = W.heap.size + 2 := by simp
 have hJ2 := hJ _ _ _ k2.x h0
 obtain ⟨hR0, hB0⟩ := hR0
 have hR2 := hR0.kept k2
 clear b1 h0
 generalize (W.alloc (.cells #[.func (.yield L) #[] #[]] 183)).alloc (.cells #[.string allB] 9) = W2 at *
 refine range_pX (act := ?mk) rfl (enters_of Tryz.func134 (by kernel_rfl) rfl) (fields1_seq allB rfl (W.heap.size + 1) (fun _ => false)) (fun _ => rfl)
  (fun pre V => (∃ xs : List (Pat × Option Addr × Nat), xs.map Prod.fst = pre.map patOf ∧ J xs V) ∧ V.heap[W.heap.size]? = some (.cells #[.func (.yield L) #[] #[]] 183 (0, 0)) ∧ W.heap.size + 2 ≤ V.heap.size)
  (fun c pre V => c = .ret ∧ ∃ xs, Jx xs V)
  ?hI ?hIx (fun B => FsR.st B) (fun _ _ => St.pure _) (fun _ => St.pure _) (fun _ => St.pure _) ⟨⟨[], rfl, hJ2⟩, b1', by omega⟩ ⟨b2, hR2⟩ ?assign ?body ?done ?stop
 case assign =>
  intro l x V K hK
  dsimp only [fEnc]
  gi_wp2
  exact hK
 case hI =>
  rintro s A C hk ⟨⟨xs, h1, h2⟩, h3, h4⟩
  refine ⟨⟨xs, h1, hJ _ _ _ ?_ h2⟩, hk.blk h3 rfl, Nat.le_trans h4 hk.size⟩
  exact ⟨hk.os, hk.tape, hk.output, hk.size, fun k o ho hc => hk.same k o ho (hc.imp (fun h => ⟨h.1, by cases o <;> rfl⟩) (fun h => by omega))⟩
 case hIx =>
  rintro c s A C hk ⟨rfl, xs, h1⟩
  refine ⟨rfl, xs, hJx _ _ _ ?_ h1⟩
  exact ⟨hk.os, hk.tape, hk.output, hk.size, fun k o ho hc => hk.same k o ho (hc.imp (fun h => ⟨h.1, by cases o <;> rfl⟩) (fun h => by omega))⟩
 case done =>
  rintro D xs V hD rfl ⟨⟨ys, h1, h2⟩, h3, h4⟩ hR hK
  have kp := Kept.putObj (B := W.heap.size) (.deferred none) (by omega) hK rfl
  refine leave1 (fn := Tryz.f131) hK (fun _ _ => results_none rfl _ _ _) ⟨⟨_, rfl⟩, .inl ⟨ys, h1, hJ _ _ _ kp.x h2, hR.2.kept kp, by have := kp.size; omega⟩⟩
 case stop =>
  rintro D c pre V hD - ⟨rfl, xs, h1⟩ hK
  have kp := Kept.putObj (B := W.heap.size) (.deferred none) (by omega) hK rfl
  gi_wp2
  refine leave1 (fn := Tryz.f131) hK (fun _ _ => results_none rfl _ _ _) ⟨⟨_, rfl⟩, .inr ⟨xs, trivial, hJx _ _ _ kp.x h1⟩⟩
 case body =>
  rintro l pre x V hl _ ⟨⟨ys, h1, h2⟩, h3, h4⟩ hR hadm
  have hcv := fun w => Lib.run_convert_string_bytes (P := Tryz.prog) w 9 66 5 ⟨x.toArray⟩ Tryz.underlying9 Tryz.underlying66 Tryz.underlying5
  gi_upto_region 5 with (fail)
  have hV : Kept W.heap.size V V := Kept.refl _ _
  have B1 := (Below.refl V.heap.size V).alloc (Nat.le_refl _) (.cells #[.int .i64 0] 3)
  have B2 := B1.alloc B1.size (.cells #[.string ⟨#[]⟩, .slice (some ⟨V.heap.size, 0, none⟩) 1 1] 181)
  have hrow0 : ((V.alloc (.cells #[.int .i64 0] 3)).alloc (.cells #[.string ⟨#[]⟩, .slice (some ⟨V.heap.size, 0, none⟩) 1 1] 181)).ownsRow V.heap.size 3 1 (.slice (some ⟨V.heap.size, 0, none⟩) 1 1) 1 [.int .i64 0] := by
   refine ⟨rfl, .inr ⟨V.heap.size, 1, #[.int .i64 0], rfl, Nat.le_refl _, ?_, Nat.le_refl _, by decide, rfl, rfl⟩⟩
   exact (Kept.alloc 0 _ _).same _ _ (World.alloc_heap_new V _) (.inl rfl)
  have hpb0 := World.alloc_heap_new (V.alloc (.cells #[.int .i64 0] 3)) (.cells #[.string ⟨#[]⟩, .slice (some ⟨V.heap.size, 0, none⟩) 1 1] 181)
  rw [World.size_alloc] at hpb0
  have hsz2 : ((V.alloc (.cells #[.int .i64 0] 3)).alloc (.cells #[.string ⟨#[]⟩, .slice (some ⟨V.heap.size, 0, none⟩) 1 1] 181)).heap.size = V.heap.size + 2 := by simp
  generalize (V.alloc (.cells #[.int .i64 0] 3)).alloc (.cells #[.string ⟨#[]⟩, .slice (some ⟨V.heap.size, 0, none⟩) 1 1] 181) = V2 at *
  have B3 := Go.Joins.below_bytesWorld V2.heap.size V2 5 ⟨x.toArray⟩ (Nat.le_refl _)
  have hby := hid (fun j hj => Lib.bytesWorld_cell V2 5 ⟨x.toArray⟩ j hj)
  have hbn := Lib.bytesWorld_at_new V2 5 ⟨x.toArray⟩
  have hsz3 := Lib.bytesWorld_size V2 5 ⟨x.toArray⟩
  clear hcv
  generalize Lib.bytesWorld V2 5 ⟨x.toArray⟩ = V3 at *
  rw [hsz2] at hsz3
  have k3 : Kept W.heap.size V V3 := (Kept.of_below B2 _).trans (Kept.of_below B3 _)
  have hJ3 := hJ _ _ _ k3.x h2
  have hy3 := k3.same _ _ h3 (.inl rfl)
  have hR3 := FsR.st W.heap.size _ _ k3 hR
  have hrow3 := (Kept.of_below B3 0).owns hrow0
  have hpb3 := (Kept.of_below B3 0).same _ _ hpb0 (.inl rfl)
  have hby3 : ∀ j (hj : j < x.length), V3.cell? ⟨V2.heap.size, j, none⟩ = some (.int .u8 x[j].toNat) := by
   intro j hj
   have := hby.out j (show j < x.toArray.size by simpa using hj)
   rw [this]; simp [List.getD, hj]
  rw [hsz2] at hby3 hbn
  replace hbn : ∃ bc fr, V3.heap[V.heap.size + 2]? = some (.cells bc 5 fr) := ⟨_, _, hbn⟩
  obtain ⟨bc, bfr, hbn⟩ := hbn
  have hsx : V.heap.size + 3 = V3.heap.size := hsz3.symm
  have kV : Kept V.heap.size V V3 := (Kept.of_below B2 _).trans (Kept.of_below B3 _)
  clear hrow0 hpb0 hby B1 B2 hV
  have hxl : x.length ≤ 8 := by
   have h1 : x ∈ patTexts := hadm.subset (by simp)
   have h2 : (patTexts.all fun y => decide (y.length ≤ 8)) = true := by decide
   simpa using List.all_eq_true.1 h2 x h1
  have hxa : ∀ c ∈ x, c.toNat < 128 := by
   have h1 : x ∈ patTexts := hadm.subset (by simp)
   have h2 : (patTexts.all fun y => y.all fun c => decide (c.toNat < 128)) = true := by decide
   intro c hc
   simpa using List.all_eq_true.1 (List.all_eq_true.1 h2 x h1) c hc
  gi_loopw [13] (fun i wr => ∃ (k : Nat) (v : Value), k ≤ x.length ∧ i = .int .i64 k ∧ wr.heap[V.heap.size + 1]? = some (.cells #[.string ⟨(patOf (x.take k)).letters.toArray⟩, v] 181 (0, 0)) ∧
   wr.ownsRow V.heap.size 3 1 v (patOf (x.take k)).nums.length ((patOf (x.take k)).nums.flatMap encI) ∧ KeptX ownPt V.heap.size V wr ∧ wr.heap[V.heap.size + 2]? = V3.heap[V.heap.size + 2]? ∧ V3.heap.size ≤ wr.heap.size) (fun i _ => x.length - (RowKit.intOf i).toNat)
  case atStart => exact ⟨0, _, Nat.zero_le _, rfl, hpb3, hrow3, kV.x, rfl, Nat.le_refl _⟩
  case round =>
   obtain ⟨k, v, hk, rfl, hpb, hrow, hkx, hbyw, hsw⟩ := hrel
   obtain ⟨pu, cu, rfl, hu1, hu2⟩ := owns_shape hrow
   unfold maxLen at hu2
   have hp0 := cell_blk hpb (i := 0) rfl
   have hp1 := cell_blk hpb (i := 1) rfl
   have hf0 := frozen_blk (i := 0) hpb
   have hf1 := frozen_blk (i := 1) hpb
   obtain ⟨hl1, hl2⟩ := patOf_len (x.take k)
   rw [List.length_take] at hl2
   by_cases hkl : k < x.length
   ·have htk : x.take (k + 1) = x.take k ++ [x[k]] := by rw [List.take_succ_eq_append_getElem hkl]
    have hc0 : wr.cell? ⟨V.heap.size + 2, k, none⟩ = some (.int .u8 x[k].toNat) := (World.cell?_of_block (a := ⟨V.heap.size + 2, k, none⟩) hbyw).trans (hby3 k hkl)
    have hpk := hid (congrArg patOf htk)
    rw [patOf_snoc] at hpk
    clear htk
    have hca := hxa x[k] (List.getElem_mem _)
    generalize x[k] = c at hc0 hpk hca
    generalize patOf (x.take k) = q at *
    obtain ⟨ql, qn⟩ := q
    simp only [] at *
    have hbw : wr.heap[V.heap.size + 2]? = some (.cells bc 5 bfr) := hbyw.trans hbn
    replace hbyw := hid hbyw
    have hsz4 : V.heap.size + 3 ≤ wr.heap.size := by omega
    clear hY hJ hJx hc hy3 hrow3 hpb3 hby3 hJ3 hR3
    replace hbn := hid hbn
    replace hxa := hid hxa
    by_cases hd : 48 ≤ c.toNat ∧ c.toNat ≤ 57
    ·have h48 : (48 : Int) ≤ c.toNat := by omega
     have h57 : (c.toNat : Int) ≤ 57 := by omega
     obtain ⟨g, rfl, hg, ⟨x0, hgc⟩, hgf, hset, ⟨cur, fr, hcur⟩, hgn⟩ := owns_set hrow (i := ql.length) (by omega) (.int .i64 (c.toNat - 48))
     have hw := IntWalk.u8_in ((c.toNat : Int) - 48) (by omega)
     have hg1 := hgn _ _ _ _ hpb (by decide)
     have hg2 := hgn _ _ _ _ hbw (by decide)
     have hps : patStep ⟨ql, qn⟩ c = ⟨ql, qn.set ql.length (c.toNat - 48 : Int)⟩ := by unfold patStep; rw [if_pos hd]
     have hst := hid (show (wr.setCell ⟨g, ql.length, none⟩ (.int .i64 (c.toNat - 48))).heap[V.heap.size + 1]? = _ from (setCell_off hg1).trans hpb)
     have hkx1 := hid (hkx.trans (KeptX.setCell (i := ql.length) hcur rfl hg (.int .i64 (c.toNat - 48))))
     have hby1 := hid (show (wr.setCell ⟨g, ql.length, none⟩ (.int .i64 (c.toNat - 48))).heap[V.heap.size + 2]? = _ from (setCell_off hg2).trans hbyw.out)
     replace hset := hid hset
     rw [hps] at hpk
     clear hgn hrow hkx hcur
     gi_wp2_with (fail)
     refine ⟨⟨k + 1, .slice (some ⟨g, 0, none⟩) qn.length cu, by omega, by go_num, ?_, ?_, hkx1.out, hby1.out, by simpa [World.setCell] using hsw⟩, by simp [RowKit.intOf]; omega⟩
     ·rw [hpk.out]; exact hst.out
     ·rw [hpk.out]
      have e1 : (qn.set ql.length (c.toNat - 48 : Int)).flatMap encI = (qn.flatMap encI).set ql.length (.int .i64 (c.toNat - 48)) := by
       rw [map_encI, map_encI, List.map_set]
      rw [e1]
      simpa using hset.out
    ·have hps : patStep ⟨ql, qn⟩ c = ⟨ql ++ [c], qn ++ [0]⟩ := by unfold patStep; rw [if_neg hd]
     rw [hps] at hpk
     obtain ⟨A, hA⟩ : ∃ A : ByteArray, A = ⟨ql.toArray⟩ := ⟨_, rfl⟩
     obtain ⟨C, hC⟩ : ∃ C : ByteArray, C = ⟨#[c]⟩ := ⟨_, rfl⟩
     obtain ⟨S, hS⟩ : ∃ S : ByteArray, S = A ++ C := ⟨_, rfl⟩
     have hcv : ∀ w, (convert 5 9 (.int .u8 (c.toNat : Int))).run Tryz.prog w = .ok (.string C) w := fun w => by
      rw [hC, ← encode_small c hca]
      exact run_convert_int_string w _ _ _ _ rfl rfl
     have hadd : ∀ w, (Op.stringOp .add A C).run Tryz.prog w = .ok (.string S) w := fun w => by
      rw [hS]
      refine run_string_add w _ _ ?_ ?_
      ·rw [hA]; show ((ql.length : Nat) : Int) ≤ _; omega
      ·rw [hC]; show ((1 : Nat) : Int) ≤ _; omega
     rw [← hA] at hpb hp0 hp1
     have hS2 := hid (show S = ⟨(ql ++ [c]).toArray⟩ by rw [hS, hA, hC]; exact ByteArray.ext (by simp))
     clear hA hC hS
     have hst := hid (show (wr.setCell ⟨V.heap.size + 1, 0, none⟩ (.string S)).heap[V.heap.size + 1]? = _ from setCell_blk hpb)
     have hro := hid (owns_off hrow hpb (by decide) 0 (.string S))
     have hkx1 := hid (hkx.trans (KeptX.setCell (i := 0) hpb rfl (by omega) (.string S)))
     have hby1 := hid (show (wr.setCell ⟨V.heap.size + 1, 0, none⟩ (.string S)).heap[V.heap.size + 2]? = _ from (setCell_off (by omega)).trans hbw)
     clear hrow hkx
     by_cases h48 : (48 : Int) ≤ c.toNat
     ·have h57 : ¬ (c.toNat : Int) ≤ 57 := by omega
      clear hd hps
      gi_upto_region 9 with (fail)
      gi_upto_region 10 with (fail)
      have hb5 := hst.out
      have hro5 := hro.out
      have hkx5 := hkx1.out
      have hby5 := hby1.out
      have hsw5 : V3.heap.size ≤ (wr.setCell ⟨V.heap.size + 1, 0, none⟩ (.string S)).heap.size := by simpa [World.setCell] using hsw
      clear hst hro hkx1 hby1 hp0 hp1 hf0 hf1 hpb hc0 hbw hbyw
      generalize wr.setCell ⟨V.heap.size + 1, 0, none⟩ (.string S) = w5 at *
      simp only [List.setIfInBounds_toArray, List.set_cons_zero] at hb5
      rw [hl1] at hb5 hro5
      have hp1 := cell_blk hb5 (i := 1) rfl
      have hp0 := cell_blk hb5 (i := 0) rfl
      gi_wp2_with (gi_at_builtin; go_must (refine wpListIn_append_own _ rfl _ _ 50 rfl V.heap.size 3 i0 (.int .i64 0) 1 8 Tryz.underlying50 hi hz0 hz1 hz2 rfl (by decide) (.slice pu (ql.length + 1) cu) (ql.length + 1) (qn.flatMap encI) rfl (hro5.alloc _) ⟨_, 0, none⟩ 1 1 [.int .i64 0] rfl rfl (cells_new _ _ _) (by simp [Value.oneCell']) (by unfold maxLen; omega) (by omega) (by simp; omega) ?_; intro v' w2 hown' hgrow _; obtain ⟨g', cap', rfl⟩ := ownsRow_succ hown'; have hb6 := owns_grown (hro5.alloc _) hgrow ((Below.heap_alloc w5 _ _ (Array.getElem?_eq_some_iff.1 hb5).1).trans hb5) (by decide); have hp6 := cell_blk hb6 (i := 1) rfl; have hf6 := frozen_blk hb6 (i := 1)))
      have hb7 := setCell_blk (i := 1) (x := .slice (some ⟨g', 0, none⟩) (ql.length + 1 + 1) cap') hb6
      refine ⟨⟨k + 1, .slice (some ⟨g', 0, none⟩) (ql.length + 1 + 1) cap', by omega, by go_num, ?_, ?_, ?_, ?_, ?_⟩, by simp [RowKit.intOf]; omega⟩
      ·rw [hpk.out, ← hS2.out]
       simpa using hb7
      ·rw [hpk.out]
       have e1 : (qn ++ [0]).flatMap encI = qn.flatMap encI ++ [.int .i64 0] := by simp [encI]
       have e2 : (qn ++ [0]).length = ql.length + 1 + 1 := by simp [hl1]
       dsimp only
       rw [e1, e2]
       exact owns_off hown' hb6 (by decide) _ _
      ·exact (hkx5.trans (Kept.alloc V.heap.size w5 (.cells #[.int .i64 0] 3)).x).trans ((KeptX.grownOwn (hro5.alloc _) rfl hgrow).trans (KeptX.setCell hb6 rfl (by omega) _))
      ·rw [setCell_off (by omega)]
       exact (owns_grown (hro5.alloc _) hgrow ((Below.heap_alloc w5 _ _ (Array.getElem?_eq_some_iff.1 hby5).1).trans hby5) (by decide)).trans hbn.out.symm
      ·have := hgrow.size
       simp [World.setCell] at this ⊢
       omega
     ·clear hd hps
      gi_upto_region 9 with (fail)
      gi_upto_region 10 with (fail)
      have hb5 := hst.out
      have hro5 := hro.out
      have hkx5 := hkx1.out
      have hby5 := hby1.out
      have hsw5 : V3.heap.size ≤ (wr.setCell ⟨V.heap.size + 1, 0, none⟩ (.string S)).heap.size := by simpa [World.setCell] using hsw
      clear hst hro hkx1 hby1 hp0 hp1 hf0 hf1 hpb hc0 hbw hbyw
      generalize wr.setCell ⟨V.heap.size + 1, 0, none⟩ (.string S) = w5 at *
      simp only [List.setIfInBounds_toArray, List.set_cons_zero] at hb5
      rw [hl1] at hb5 hro5
      have hp1 := cell_blk hb5 (i := 1) rfl
      have hp0 := cell_blk hb5 (i := 0) rfl
      gi_wp2_with (gi_at_builtin; go_must (refine wpListIn_append_own _ rfl _ _ 50 rfl V.heap.size 3 i0 (.int .i64 0) 1 8 Tryz.underlying50 hi hz0 hz1 hz2 rfl (by decide) (.slice pu (ql.length + 1) cu) (ql.length + 1) (qn.flatMap encI) rfl (hro5.alloc _) ⟨_, 0, none⟩ 1 1 [.int .i64 0] rfl rfl (cells_new _ _ _) (by simp [Value.oneCell']) (by unfold maxLen; omega) (by omega) (by simp; omega) ?_; intro v' w2 hown' hgrow _; obtain ⟨g', cap', rfl⟩ := ownsRow_succ hown'; have hb6 := owns_grown (hro5.alloc _) hgrow ((Below.heap_alloc w5 _ _ (Array.getElem?_eq_some_iff.1 hb5).1).trans hb5) (by decide); have hp6 := cell_blk hb6 (i := 1) rfl; have hf6 := frozen_blk hb6 (i := 1)))
      have hb7 := setCell_blk (i := 1) (x := .slice (some ⟨g', 0, none⟩) (ql.length + 1 + 1) cap') hb6
      refine ⟨⟨k + 1, .slice (some ⟨g', 0, none⟩) (ql.length + 1 + 1) cap', by omega, by go_num, ?_, ?_, ?_, ?_, ?_⟩, by simp [RowKit.intOf]; omega⟩
      ·rw [hpk.out, ← hS2.out]
       simpa using hb7
      ·rw [hpk.out]
       have e1 : (qn ++ [0]).flatMap encI = qn.flatMap encI ++ [.int .i64 0] := by simp [encI]
       have e2 : (qn ++ [0]).length = ql.length + 1 + 1 := by simp [hl1]
       dsimp only
       rw [e1, e2]
       exact owns_off hown' hb6 (by decide) _ _
      ·exact (hkx5.trans (Kept.alloc V.heap.size w5 (.cells #[.int .i64 0] 3)).x).trans ((KeptX.grownOwn (hro5.alloc _) rfl hgrow).trans (KeptX.setCell hb6 rfl (by omega) _))
      ·rw [setCell_off (by omega)]
       exact (owns_grown (hro5.alloc _) hgrow ((Below.heap_alloc w5 _ _ (Array.getElem?_eq_some_iff.1 hby5).1).trans hby5) (by decide)).trans hbn.out.symm
      ·have := hgrow.size
       simp [World.setCell] at this ⊢
       omega
   ·obtain rfl : k = x.length := by omega
    rw [List.take_length] at *
    have hsl : Sl wr 1 encI (.slice pu (patOf x).nums.length cu) (patOf x).nums := sl_of_owns (e := 3) (base := V.heap.size) (fun _ _ => rfl) hrow
    rw [hl1] at hsl
    have hold : ∀ j o, V.heap[j]? = some o → wr.heap[j]? = some o := fun j o h => hkx.same j o h (.inr (Array.getElem?_eq_some_iff.1 h).1)
    have hJw := hJ _ _ _ (hkx.mono (by omega)) h2
    have hpg : ∀ a, pu = some a → B0 ≤ a.block := by
     rintro a rfl
     have := own_addr hrow
     omega
    have hyw := hold _ _ h3
    have hRw : FsR allB (W.heap.size + 1) wr := ⟨hold _ _ hR.1, fun c hc => by
     have h := hR.2 c hc
     obtain ⟨o, ho⟩ : ∃ o, V.heap[3]? = some o := by
      cases h5 : V.heap[3]? with
      | none => simp [World.cell?, h5] at h
      | some o => exact ⟨o, rfl⟩
     exact (World.cell?_of_block (a := ⟨3, c, none⟩) ((hold _ _ ho).trans ho.symm)).trans h⟩
    have hadm2 : (ys ++ [(patOf x, pu, cu)]).map Prod.fst <+: pats := by
     rw [List.map_append, h1]
     have := hadm.map patOf
     simpa [pats] using this
    obtain ⟨fn, tmps, assign, body, hy, hRd⟩ := hY ys (patOf x, pu, cu) wr hJw ⟨hRw.2, by omega⟩ ⟨hadm2, hsl, hpg⟩
    dsimp only [ptEnc] at hy
    clear hY hJ hJx hc hy3 hrow3 hpb3 hby3 hJ3 hR3 hbn hadm hadm2
    have hyc := cell_blk hyw (i := 0) rfl
    gi_wp2_with (fail)
    refine ⟨rfl, hRd.mono ?_⟩
    have kx0 : KeepsX (fun _ => false) W2.heap.size V wr := ⟨by omega, fun j o _ h _ => hold j o h⟩
    clear hrow hpb hp0 hp1 hf0 hf1 hyc hold hsl hJw
    rintro e W3 (⟨rfl, hJ4, hR4, hK4⟩ | ⟨rfl, hJx4, hK4⟩)
    ·gi_wp2_with (fail)
     refine ⟨kx0.trans ⟨hK4.size, fun j o hj ho hc => hK4.same j o (by omega) ho (hc.imp id (fun hc => by cases o <;> cases hc))⟩, ⟨hK4.same _ _ (by omega) hRw.1 (.inr rfl), hR4.1⟩, ⟨_, by rw [List.map_append, h1]; simp, hJ4⟩, hK4.same _ _ (by omega) hyw (.inr rfl), ?_⟩
     have := hK4.size
     omega
    ·gi_wp2_with (fail)
     exact ⟨kx0.trans ⟨hK4.size, fun j o hj ho hc => hK4.same j o (by omega) ho (hc.imp id (fun hc => by cases o <;> cases hc))⟩, rfl, _, hJx4⟩
end Go.Proofs.YtempicociampoaaGreatDoor
