/- The walks of leaf.entries, slices.AppendSeq and Collect at entries (printed by gen_iyi.py). -/
import Derived.Test.YtomgjapjeckokaaIyH
import Derived.Test.YtomgjapjeckokaaIyC
import Derived.Deep.WholeRow
namespace Go.Proofs.Ytomgjapjeckokaa
open Go.RowKit Go.Shelf Go.Lib
attribute [local go_sem] Oper.semAt_some

/-- the statement, outside of every round, whose assignments lay each thing in a block of its own -/
theorem range_boxA {P : Program} {α : Type} {g : Operand} {ps : Array Tmp} {assign body : Code} {Q : Exit → Act → World → Prop} {a : Act} {w : World} {gf : Nat} {lb : Array Value}
    {encs : α → Array Value} {Adm : List α → α → World → Prop} {S Sp : List α → World → Prop} {R : World → Prop}
    (hg : a.eval g = .func (.func gf) #[] lb) (eg : ∀ args w, (callFunc gf args).run P w = .ok (.enter gf args) w)
    (hseq : SeqN P gf lb encs R Adm S Sp) (hps : ∀ x, (encs x).size = ps.size) (I : Nat → List α → World → Prop) (I0 : World → Prop) (Ix : Code → List α → World → Prop)
    (hI : ∀ M s, St w.heap.size (I M s)) (hI0 : St w.heap.size I0) (hI1 : ∀ M W, I0 W → w.heap.size ≤ M → M ≤ W.heap.size → I M [] W) (hIx : ∀ c s, St w.heap.size (Ix c s)) (hR : ∀ B, St B R) (hAdm : ∀ pre x, St w.heap.size (Adm pre x)) (hS : ∀ xs, St w.heap.size (S xs)) (hSp : ∀ xs, St w.heap.size (Sp xs))
    (hsz : ∀ M pre W, I M pre W → w.heap.size ≤ W.heap.size) (h0 : I0 w) (hR0 : R w)
    (mk : Nat → α → Act) (cs : α → Array Value) (tI : TypeId)
    (hassign : ∀ (l : Nat) (pre : List α) (x : α) (j : Nat) (W : World) (K : Act → World → Prop), Adm pre x W → W.heap.size = j → K (mk j x) (W.alloc (.cells (cs x) tI)) →
      assign.wpIn (Fence.wide.inRound l) 0 P (Exit.then K (fun _ _ _ => False)) { tmps := (ps.zip (encs x)).foldl (fun t (p, v) => t.setIfInBounds p v) a.tmps, defers := [] } W)
    (hbody : ∀ (l M : Nat) (pre : List α) (x : α) (j : Nat) (W : World), w.heap.size ≤ l → w.heap.size ≤ M → (∃ r, W.heap[l]? = some (.loop r)) → I M pre W → R W → Adm pre x W → w.heap.size ≤ j → W.heap[j]? = some (.cells (cs x) tI (0, 0)) →
      body.wpIn (Fence.wide.inRound l) 0 P (rpostN M w.heap.size R (I M) Ix (pre ++ [x]) W) (mk j x) W)
    (hdone : ∀ (D M : Nat) (xs : List α) (W : World), w.heap.size ≤ D → S xs W → I M xs W → R W → W.heap[D]? = some (.deferred (some [])) → Q .normal { a with defers := { target := .collected D, args := #[] } :: a.defers } W)
    (hstop : ∀ (D : Nat) (c : Code) (pre : List α) (W : World), w.heap.size ≤ D → Sp pre W → Ix c pre W → W.heap[D]? = some (.deferred (some [])) →
      c.wpIn Fence.wide 0 P Q { a with defers := { target := .collected D, args := #[] } :: a.defers } W) :
    (Code.rangeFunc g ps assign body).wpIn Fence.wide 0 P Q a w :=
  range_lawN hg eg hseq hps I I0 Ix hI hI0 hI1 hIx (hR _) hAdm h0 hR0 (fun x a' W => ∃ j, w.heap.size ≤ j ∧ a' = mk j x ∧ W.heap[j]? = some (.cells (cs x) tI (0, 0)))
    (fun _ _ _ _ hk ⟨j, h1, h2, h3⟩ => ⟨j, h1, h2, hk.same _ _ h3 (.inl rfl)⟩)
    (fun l M pre x W K _ hi hr ha hK => hassign l pre x _ W K ha rfl (hK _ _ (KeepsM.alloc _ _ W _) (hR 0 _ _ (Kept.alloc _ _ _) hr) (hI _ _ _ _ (Kept.alloc _ _ _) hi) (hAdm _ _ _ _ (Kept.alloc _ _ _) ha) ⟨_, hsz _ _ _ hi, rfl, World.alloc_heap_new W _⟩))
    (fun l M pre x a' W hl hM hr2 hi hr ha hax => by obtain ⟨j, hj, rfl, hb⟩ := hax; exact hbody l M pre x j W hl hM hr2 hi hr ha hj hb) hdone hstop hS hSp




theorem wpListIn_store_new {F : Fence} {n : Nat} {P : Program} {ops : Array Oper} {rest : List Oper} {o : Oper} {a : Act} {w : World} {Q : Exit → Act → World → Prop} {N : Nat} (hN : w.heap.size = N) (hgd : o.guard = none) (t : TypeId) (x y : Operand) (ho : o.op = .store t x y) (c c' : Array Value)
    (hx : a.eval x = .pointer (some ⟨N, 0, none⟩)) (hy : a.eval y = .agg c') (hi : (P.info? t).map (·.size) = some c'.size) (hc : c.size = c'.size) (h1 : c'.all (·.oneCell') = true)
    (h : wpListIn F n P ops Q rest (a.put o.dst undef) (w.alloc (.cells c' t))) : wpListIn F n P ops Q (o :: rest) a (w.alloc (.cells c t)) :=
  wpListIn_plain hgd fun _ hK => wpIn_skip (by rw [ho]; intro c hc; cases hc) (by simp [Oper.about, ho]) _ (by
    unfold execOp
    simp only [ho, hx, hy, ← hN, Sem.run_bind, run_storeAt_new w t c c' hi hc h1, Result.andThen_ok]; rfl) (hK _ _ h)

set_option maxRecDepth 100000 in
set_option maxHeartbeats 2000000 in
theorem AppendSeqE_any (w : World) (gf : Nat) (lb : Array Value) (R : World → Prop) (l : List Ent) (hL : l.length ≤ 100000) (hk : ∀ e ∈ l, e.key.length = 32)
    (eg : ∀ args w, (callFunc gf args).run Try.prog w = .ok (.enter gf args) w) (hR : ∀ B, St B R) (hRB : ∀ W, Below w.heap.size w W → R W)
    (hseq : SeqN Try.prog gf lb encEv R (fun pre x _ => pre ++ [x] <+: l) (fun xs _ => xs = l) (fun _ _ => True)) :
    Calls Try.prog 63 #[.slice none 0 0, .func (.func gf) #[] lb] w fun e w' => ∃ v, e = .returned v ∧ w'.ownsRow w.heap.size 48 35 v l.length (l.flatMap encE) ∧ Below w.heap.size w w' := by
  obtain ⟨i0, z, hi0, hz0, hz1, hz2, hz3⟩ := infoE_parts
  refine calls_of_marks Try.func63 rfl ?_
  simp only [Try.ntmps63, List.size_toArray, List.length_cons, List.length_nil, Nat.reduceAdd, Nat.reduceSub, Array.replicate_succ, Array.replicate_zero, List.push_toArray, List.append_toArray, List.nil_append, List.cons_append]
  gi_wp2_with (fail)
  have bO := Boxed.new w 22 (.slice none 0 0)
  have hB0 : Below w.heap.size w (w.alloc (.cells #[.slice none 0 0] 22)) := (Below.refl _ w).alloc (Nat.le_refl _) _
  refine range_boxA rfl eg hseq (fun _ => rfl)
    (fun M pre W => (∃ v, Boxed W w.heap.size 22 v ∧ W.ownsRow M 48 35 v pre.length (pre.flatMap encE)) ∧ M ≤ W.heap.size ∧ w.heap.size ≤ M ∧ w.heap.size + 1 ≤ W.heap.size ∧ Below w.heap.size w W)
    (fun W => Boxed W w.heap.size 22 (.slice none 0 0) ∧ w.heap.size + 1 ≤ W.heap.size ∧ Below w.heap.size w W)
    (fun _ _ _ => False) ?hI ?hI0 ?hI1 (fun _ _ _ _ _ h => h) hR (fun _ _ => St.pure _) (fun _ => St.pure _) (fun _ => St.pure _) ?hsz ?h0 (hRB _ hB0)
    ?mk (fun x => rowE x) 48 ?assign ?body ?done ?stop
  case assign =>
    intro l9 pre x j W K hadm hj hK
    have hxk : x.key.length = 32 := hk x (by obtain ⟨t, ht⟩ := hadm; rw [← ht]; simp)
    dsimp only [encEv] at hK ⊢
    have hi7 : (Try.prog.info? 48).map (·.size) = some (rowE x).size := by rw [rowE_size hxk]; kernel_rfl
    gi_wp2_with (refine wpListIn_store_new hj rfl 48 _ _ rfl _ (rowE x) rfl rfl hi7 (by rw [rowE_size hxk]; first | done | rfl) (one_rowE _) ?_)
    try simp only [Act.put]
    exact hK
  case hI =>
    rintro M s A C hk ⟨⟨v, h1, h2⟩, h5, h6, h3, h4⟩
    exact ⟨⟨v, hk.same _ _ h1 (.inl rfl), hk.owns h2⟩, Nat.le_trans h5 hk.size, h6, Nat.le_trans h3 hk.size, hk.below (by simp) (Nat.le_refl _) h4⟩
  case hI0 =>
    rintro A C hk ⟨h1, h3, h4⟩
    exact ⟨hk.same _ _ h1 (.inl rfl), Nat.le_trans h3 hk.size, hk.below (by simp) (Nat.le_refl _) h4⟩
  case hI1 =>
    rintro M W ⟨h1, h3, h4⟩ hM0 hM
    exact ⟨⟨_, h1, World.ownsRow_nil _ _ _ _⟩, hM, by simp at hM0; omega, h3, h4⟩
  case hsz => exact fun _ _ _ h => by have := h.2.2.2.1; simp; omega
  case h0 => exact ⟨bO, by simp, hB0⟩
  case body =>
    rintro l9 M pre x j W hl2 hM1 _ ⟨⟨v, hv, hrow⟩, hMs, -, hsz, hB⟩ hR' hadm hj hx
    have hpl : pre.length + 1 ≤ 100000 := by
      obtain ⟨t, ht⟩ := hadm
      have := congrArg List.length ht
      simp at this; omega
    have hxk : x.key.length = 32 := hk x (by obtain ⟨t, ht⟩ := hadm; rw [← ht]; simp)
    have hMw : w.heap.size + 1 ≤ M := by simpa using hM1
    obtain ⟨B0, hB0e⟩ : ∃ b, w.heap.size = b := ⟨_, rfl⟩
    obtain ⟨pv, cv, rfl, hpc, hcm⟩ := owns_shape hrow
    have hr := range_blk (cs := encE x) hx
    have hi6 : (Try.prog.info? 48).map (·.size) = some (encE x).length := by rw [encE_len, hxk]; kernel_rfl
    have he1 : ∀ y ∈ [x], (encE y).length = 35 ∧ ∀ u ∈ encE y, u.oneCell' = true := encE_enc (fun y hy => by obtain rfl := List.mem_singleton.1 hy; exact hxk)
    obtain ⟨N, hN⟩ : ∃ N, W.heap.size = N := ⟨_, rfl⟩
    have kL := Kept.alloc 0 W (.cells (rowE x) 48)
    have oL := kL.owns hrow
    have hvL : (W.alloc (.cells (rowE x) 48)).heap[w.heap.size]? = some (.cells #[.slice pv pre.length cv] 22 (0, 0)) := kL.same _ _ hv (.inl rfl)
    have gN := World.alloc_heap_new W (.cells (rowE x) 48)
    have BL := hB.alloc (by omega) (.cells (rowE x) 48)
    have hkm := KeepsM.alloc M (w.heap.size + 1) W (.cells (rowE x) 48)
    have hML : M ≤ (W.alloc (.cells (rowE x) 48)).heap.size := by rw [World.size_alloc]; omega
    rw [hN] at gN
    have sL : Sl (W.alloc (.cells (rowE x) 48)) 35 encE (.slice (some ⟨N, 0, none⟩) 1 1) [x] := by
      refine Sl.mk (l := [x]) (by simp) (by decide) fun i y hy => ?_
      match i, hy with
      | 0, hy =>
        obtain rfl := Option.some.inj hy
        rw [Nat.zero_mul, Nat.add_zero]
        exact range_blk (cs := encE _) gN
    obtain ⟨WL, hWL⟩ : ∃ V, W.alloc (.cells (rowE x) 48) = V := ⟨_, rfl⟩
    rw [hWL] at oL hvL BL hkm hML sL
    have hc := hv.cell
    rw [hB0e] at hc hvL hkm BL hMw hRB ⊢
    clear hadm hM1 hrow hv gN kL hB
    gi_wp2_with (first | refine wpListIn_load_mid rfl 48 _ rfl j 0 rfl (encE x) _ hr Try.underlying48 rfl hi6 ?_ | (refine wpListIn_build1 rfl 22 48 _ rfl Try.underlying22 hi0 hz0 (rowE x) rfl (by rw [rowE_size hxk, hz1]) (by rw [hz1]; decide) ?_; rw [hWL]; (try rw [hN])) | (gi_at_builtin; go_must (refine wpListIn_append_sl rfl _ _ 22 rfl M 48 i0 z 35 56 Try.underlying22 hi0 hz0 hz1 hz2 hz3 (by decide) _ _ _ rfl oL encE _ [x] rfl sL he1 (by unfold maxLen; simp only [List.length_singleton]; omega) (by simp only [List.length_singleton]; omega) hML ?_; intro v7 w7 o7 hg7 n7; obtain ⟨g7, c7, rfl⟩ := ownsRow_succ o7; have hb7 := grown_blkI oL hg7 hMw hvL; have hc7 := cell_blk hb7 (i := 0) rfl; have hf7 := frozen_blk hb7 (i := 0))))
    have hB7 := BL.grown hg7 (by omega) (fun j e9 => by have := own_baseI oL e9; omega)
    have hk7 := hkm.trans (KeepsM.grown (B0 + 1) oL hg7)
    have hu := setCell_blk hb7 (i := 0) (x := .slice (some ⟨g7, 0, none⟩) (pre.length + 1) c7)
    obtain ⟨W8, hW8⟩ : ∃ V, w7.setCell ⟨B0, 0, none⟩ (.slice (some ⟨g7, 0, none⟩) (pre.length + 1) c7) = V := ⟨_, rfl⟩
    have hk8 := KeepsM.setCell M (B0 + 1) hb7 (i := 0) (.inl (by omega)) (.slice (some ⟨g7, 0, none⟩) (pre.length + 1) c7)
    have hz8 : W8.heap.size = w7.heap.size := by rw [← hW8]; simp [World.setCell]
    have hB8 : Below B0 w W8 := by
      rw [← hW8]
      exact ⟨hB7.os, hB7.tape, hB7.output, by simp [World.setCell]; exact hB7.size, fun k hk => (setCell_off (by omega)).trans (hB7.block k hk)⟩
    have o8 : W8.ownsRow M 48 35 (.slice (some ⟨g7, 0, none⟩) (pre.length + 1) c7) (pre ++ [x]).length ((pre ++ [x]).flatMap encE) := by
      obtain ⟨o1, o2⟩ := o7
      rw [List.flatMap_append, List.length_append]
      refine ⟨o1, ?_⟩
      rcases o2 with ⟨e0, -⟩ | ⟨g, cap, cur, e0, hg, hh, r⟩
      · cases e0
      · refine .inr ⟨g, cap, cur, e0, hg, ?_, r⟩
        rw [← hW8]
        exact (setCell_off (by omega)).trans hh
    rw [hW8] at hu hk8 ⊢
    refine ⟨hk7.trans hk8, hRB _ hB8, ⟨_, ?_, o8⟩, ?_, by omega, ?_, hB8⟩
    · exact hu
    · have := hg7.size; omega
    · have := hB8.size; have := hg7.size; omega
  case done =>
    rintro D M ys W hD rfl ⟨⟨v, hv, hrow⟩, hMs, hMb, hsz, hB⟩ hR' hK
    have hc := hv.cell
    have hrow2 := ownsRow_mono hrow hMb
    gi_wp2
    refine leave1 hK (fun _ _ => results_tmp rfl _ _ _) ⟨_, rfl, ?_, ?_⟩
    · exact (Kept.putObj (B := 0) _ (Nat.zero_le _) hK rfl).owns hrow2
    · exact (Kept.putObj (B := w.heap.size) (.deferred none) (by simp at hD; omega) hK rfl).below (Nat.le_refl _) (Nat.le_refl _) hB
  case stop =>
    rintro D c pre W _ _ h _
    exact h.elim

set_option maxRecDepth 100000 in
set_option maxHeartbeats 2000000 in
theorem CollectE_any (w : World) (gf : Nat) (lb : Array Value) (R : World → Prop) (l : List Ent) (hL : l.length ≤ 100000) (hk : ∀ e ∈ l, e.key.length = 32)
    (eg : ∀ args w, (callFunc gf args).run Try.prog w = .ok (.enter gf args) w) (hR : ∀ B, St B R) (hRB : ∀ W, Below w.heap.size w W → R W)
    (hseq : SeqN Try.prog gf lb encEv R (fun pre x _ => pre ++ [x] <+: l) (fun xs _ => xs = l) (fun _ _ => True)) :
    Calls Try.prog 49 #[.func (.func gf) #[] lb] w fun e w' => ∃ v, e = .returned v ∧ w'.ownsRow w.heap.size 48 35 v l.length (l.flatMap encE) ∧ Below w.heap.size w w' := by
  have hc := hid (AppendSeqE_any w gf lb R l hL hk eg hR hRB hseq)
  clear hseq eg
  go_enter Try.func49, Try.ntmps49
  go_wp2_with (fail)
  refine hc.out.mono ?_
  rintro e w' ⟨v, rfl, h1, h3⟩
  go_wp2
  go_ret
  exact ⟨_, rfl, h1, h3⟩

set_option maxRecDepth 100000 in
set_option maxHeartbeats 400000 in
theorem entries_any (p : Option Addr) (n c : Nat) (w : World) :
    Calls Try.prog 50 #[.slice p n c] w fun e w' => e = .returned (.func (.func 64) #[] #[.pointer (some ⟨w.heap.size, 0, none⟩)]) ∧ w' = w.alloc (.cells #[.slice p n c] 54) := by
  go_enter Try.func50, Try.ntmps50
  go_wp2_with (fail)
  go_ret
  exact ⟨rfl, rfl⟩
end Go.Proofs.Ytomgjapjeckokaa
