/- The walks of leaf.entries and of its iterator (printed by gen_iyh.py). -/
import Derived.Test.YtomgjapjeckokaaIyG
import Derived.Test.YtomgjapjeckokaaRowIn
import Derived.Test.YtomgjapjeckokaaRangeN
import Derived.Laws.Tables
import Derived.Laws.Cover3
namespace Go.Proofs.Ytomgjapjeckokaa
open Go.RowKit Go.Shelf Go.Lib
attribute [local go_sem] Oper.semAt_some

theorem yieldsIf_build {P : Program} {ops : Array Oper} {S : World → Prop} {op : Oper} {a : Act} (hw : Region.wanted op (yielded ops a.tmps) = true) (t : TypeId) (parts : Array (Nat × Operand)) (ho : op.op = .build t parts) (cells : Array Value)
    (h : P.built t (parts.map fun (i, x) => (i, a.eval x)).toList = some cells) : YieldsIf P ops S op (.agg cells) a :=
  .inl ⟨hw, fun w _ => by
    unfold execOp
    simp only [ho, Sem.run_bind, run_build w t _ cells h, Result.andThen_ok]; rfl⟩
theorem len_cons' {k : List UInt8} {n : Nat} (h : k.length = n + 1) : ∃ y t, k = y :: t ∧ t.length = n := by
  cases k with
  | nil => simp at h
  | cons y t => exact ⟨y, t, rfl, by simpa using h⟩
set_option maxRecDepth 100000 in
theorem built_ent (k : List UInt8) (hk : k.length = 32) (x y z : Int) : Try.prog.built 48 [(0, .agg (keyV k).toArray), (1, .int .i64 x), (2, .int .i64 y), (3, .int .i64 z)] = some (rowE ⟨k, x, y, z⟩) := by
  obtain ⟨w0, k0, rfl, hk0⟩ := len_cons' hk
  obtain ⟨w1, k1, rfl, hk1⟩ := len_cons' hk0
  obtain ⟨w2, k2, rfl, hk2⟩ := len_cons' hk1
  obtain ⟨w3, k3, rfl, hk3⟩ := len_cons' hk2
  obtain ⟨w4, k4, rfl, hk4⟩ := len_cons' hk3
  obtain ⟨w5, k5, rfl, hk5⟩ := len_cons' hk4
  obtain ⟨w6, k6, rfl, hk6⟩ := len_cons' hk5
  obtain ⟨w7, k7, rfl, hk7⟩ := len_cons' hk6
  obtain ⟨w8, k8, rfl, hk8⟩ := len_cons' hk7
  obtain ⟨w9, k9, rfl, hk9⟩ := len_cons' hk8
  obtain ⟨w10, k10, rfl, hk10⟩ := len_cons' hk9
  obtain ⟨w11, k11, rfl, hk11⟩ := len_cons' hk10
  obtain ⟨w12, k12, rfl, hk12⟩ := len_cons' hk11
  obtain ⟨w13, k13, rfl, hk13⟩ := len_cons' hk12
  obtain ⟨w14, k14, rfl, hk14⟩ := len_cons' hk13
  obtain ⟨w15, k15, rfl, hk15⟩ := len_cons' hk14
  obtain ⟨w16, k16, rfl, hk16⟩ := len_cons' hk15
  obtain ⟨w17, k17, rfl, hk17⟩ := len_cons' hk16
  obtain ⟨w18, k18, rfl, hk18⟩ := len_cons' hk17
  obtain ⟨w19, k19, rfl, hk19⟩ := len_cons' hk18
  obtain ⟨w20, k20, rfl, hk20⟩ := len_cons' hk19
  obtain ⟨w21, k21, rfl, hk21⟩ := len_cons' hk20
  obtain ⟨w22, k22, rfl, hk22⟩ := len_cons' hk21
  obtain ⟨w23, k23, rfl, hk23⟩ := len_cons' hk22
  obtain ⟨w24, k24, rfl, hk24⟩ := len_cons' hk23
  obtain ⟨w25, k25, rfl, hk25⟩ := len_cons' hk24
  obtain ⟨w26, k26, rfl, hk26⟩ := len_cons' hk25
  obtain ⟨w27, k27, rfl, hk27⟩ := len_cons' hk26
  obtain ⟨w28, k28, rfl, hk28⟩ := len_cons' hk27
  obtain ⟨w29, k29, rfl, hk29⟩ := len_cons' hk28
  obtain ⟨w30, k30, rfl, hk30⟩ := len_cons' hk29
  obtain ⟨w31, k31, rfl, hk31⟩ := len_cons' hk30
  obtain rfl := List.length_eq_zero_iff.1 hk31
  kernel_rfl
theorem one_way {A B : Prop} {e : Ending} {C : Prop} {D : Prop} {RR : Prop} (h : (e = .returned (.bool true) ∧ A ∧ RR ∧ C) ∨ (e = .returned (.bool false) ∧ B ∧ RR ∧ D)) : ∃ r : Bool, e = .returned (.bool r) ∧ Hid (RR ∧ ((r = true ∧ A ∧ C) ∨ (r = false ∧ B ∧ D))) := by
  rcases h with ⟨h, a, r, c⟩ | ⟨h, b, r, d⟩
  · exact ⟨true, h, hid ⟨r, .inl ⟨rfl, a, c⟩⟩⟩
  · exact ⟨false, h, hid ⟨r, .inr ⟨rfl, b, d⟩⟩⟩

/-- an entry of 36 bytes -/
def decE (x : List UInt8) : Ent := ⟨x.take 32, (x.getD 32 0).toNat, (x.getD 33 0).toNat, ((x.getD 34 0).toNat : Int) * 256 + ((x.getD 35 0).toNat : Int)⟩
def entAt (bl : List UInt8) (j : Nat) : Ent := decE ((bl.drop (36 * j)).take 36)
def entsU (bl : List UInt8) (n : Nat) : List Ent := (List.range n).map (entAt bl)
def encEv (e : Ent) : Array Value := #[.agg (rowE e)]
theorem shl_or (p q : UInt8) : bits .or .i64 (IntKind.i64.wrap ((p.toNat : Int) * 256)) (q.toNat : Int) = (p.toNat : Int) * 256 + (q.toNat : Int) := by
  have key : ∀ x, x < 256 → ∀ y, y < 256 → bits .or .i64 (IntKind.i64.wrap (((x : Nat) : Int) * 256)) ((y : Nat) : Int) = (x : Int) * 256 + (y : Int) := by decide +kernel
  exact key _ p.toNat_lt _ q.toNat_lt

set_option maxRecDepth 100000 in
set_option maxHeartbeats 2000000 in
theorem entries1_seq (bl : List UInt8) (n b o cap bb : Nat) (hbl : bl.length = 36 * n) (hn : n ≤ 1000) (hcap : 36 * n ≤ cap ∧ cap ≤ maxLen) :
    SeqN Try.prog 64 #[.pointer (some ⟨bb, 0, none⟩)] encEv (fun W => W.heap[bb]? = some (.cells #[.slice (some ⟨b, o, none⟩) (36 * n) cap] 54 (0, 0)) ∧ Sl W 1 encU (.slice (some ⟨b, o, none⟩) (36 * n) cap) bl) (fun pre x _ => pre ++ [x] <+: entsU bl n) (fun xs _ => xs = entsU bl n) (fun _ _ => True) := by
  intro L J0 J Jx W hJ0 hJ hJx hM hY h0 hR0
  have hRst : ∀ B, St B (fun W => W.heap[bb]? = some (.cells #[.slice (some ⟨b, o, none⟩) (36 * n) cap] 54 (0, 0)) ∧ Sl W 1 encU (.slice (some ⟨b, o, none⟩) (36 * n) cap) bl) := fun B A C hk h => ⟨hk.same _ _ h.1 (.inl rfl), hk.sl h.2⟩
  have hbbl : bb < W.heap.size := (Array.getElem?_eq_some_iff.1 hR0.1).1
  obtain ⟨y0, hy0⟩ : ∃ y, W.heap.size = y := ⟨_, rfl⟩
  have b0 := World.alloc_heap_new W (.cells #[.func (.yield L) #[] #[]] 78)
  have k0 := Kept.alloc W.heap.size W (.cells #[.func (.yield L) #[] #[]] 78)
  have z0 : (W.alloc (.cells #[.func (.yield L) #[] #[]] 78)).heap.size = y0 + 1 := by rw [World.size_alloc, hy0]
  rw [hy0] at b0
  have q0 := cell_blk (i := 0) (k0.same _ _ hR0.1 (.inl rfl)) rfl
  refine calls_of_marks Try.func64 rfl ?_
  simp only [Try.ntmps64, List.size_toArray, List.length_cons, List.length_nil, Nat.reduceAdd, Nat.reduceSub, Array.replicate_succ, Array.replicate_zero, List.push_toArray, List.append_toArray, List.nil_append, List.cons_append]
  gi_upto_region 1 with (fail)
  obtain ⟨W1, hW1⟩ : ∃ V, W.alloc (.cells #[.func (.yield L) #[] #[]] 78) = V := ⟨_, rfl⟩
  rw [hW1] at b0 k0 z0 q0 ⊢
  clear hW1
  have hc := hid (chunkCU_any (some ⟨b, o, none⟩) (36 * n) cap 36 W1 (by omega))
  gi_wp2_with (fail)
  refine ⟨trivial, rfl, (callsIn_wide.2 hc.out).mono ?_⟩
  rintro e W2 ⟨rfl, hW2⟩
  clear hc
  have c1 := World.alloc_heap_new W1 (.cells #[.slice (some ⟨b, o, none⟩) (36 * n) cap] 54)
  have z1 : (W1.alloc (.cells #[.slice (some ⟨b, o, none⟩) (36 * n) cap] 54)).heap.size = y0 + 2 := by rw [World.size_alloc, z0]
  have c2 := World.alloc_heap_new (W1.alloc (.cells #[.slice (some ⟨b, o, none⟩) (36 * n) cap] 54)) (.cells #[.int .i64 (36 : Nat)] 3)
  have c1' := (Kept.alloc 0 (W1.alloc (.cells #[.slice (some ⟨b, o, none⟩) (36 * n) cap] 54)) (.cells #[.int .i64 (36 : Nat)] 3)).same _ _ c1 (.inl rfl)
  have z2 : ((W1.alloc (.cells #[.slice (some ⟨b, o, none⟩) (36 * n) cap] 54)).alloc (.cells #[.int .i64 (36 : Nat)] 3)).heap.size = y0 + 3 := by rw [World.size_alloc, z1]
  rw [z0] at c1'
  rw [z1] at c2
  have k2 : Kept W.heap.size W ((W1.alloc (.cells #[.slice (some ⟨b, o, none⟩) (36 * n) cap] 54)).alloc (.cells #[.int .i64 (36 : Nat)] 3)) := (k0.trans (Kept.alloc _ _ _)).trans (Kept.alloc _ _ _)
  have b2 := ((Kept.alloc 0 W1 (.cells #[.slice (some ⟨b, o, none⟩) (36 * n) cap] 54)).trans (Kept.alloc 0 _ (.cells #[.int .i64 (36 : Nat)] 3))).same _ _ b0 (.inl rfl)
  rw [← hW2] at c1' c2 z2 k2 b2
  rw [z0]
  clear hW2 c1 z1 b0 k0 q0
  gi_wp2_with (fail)
  have hJ1 := hM (y0 + 3) W2 (hJ0 _ _ k2 h0) (by omega) (by omega)
  refine range_p (act := ?mk) rfl (enters_of Try.func71 (by kernel_rfl) rfl) (chunkCU_seq (y0 + 1) (y0 + 1 + 1) b o (36 * n) cap 36 n (by omega) (by omega) hcap (by constructor <;> (try split) <;> omega)) (fun _ => rfl)
    (fun pre V => J (y0 + 3) (pre.map (entAt bl)) V ∧ (fun W => W.heap[bb]? = some (.cells #[.slice (some ⟨b, o, none⟩) (36 * n) cap] 54 (0, 0)) ∧ Sl W 1 encU (.slice (some ⟨b, o, none⟩) (36 * n) cap) bl) V ∧ V.heap[y0]? = some (.cells #[.func (.yield L) #[] #[]] 78 (0, 0)) ∧ y0 + 3 ≤ V.heap.size ∧ V.heap[y0 + 1]? = some (.cells #[.slice (some ⟨b, o, none⟩) (36 * n) cap] 54 (0, 0)) ∧ V.heap[y0 + 2]? = some (.cells #[.int .i64 (36 : Nat)] 3 (0, 0)))
    (fun c pre V => c = .ret ∧ ∃ xs, Jx xs V)
    ?hI ?hIx (fun B A C hk h => ⟨hk.cell h.1, hk.cell h.2⟩) (fun _ _ => St.pure _) (fun _ => St.pure _) (fun _ => St.pure _) ?h0 ⟨cell_blk (i := 0) c1' rfl, cell_blk (i := 0) c2 rfl⟩ ?assign ?body ?done ?stop
  case assign =>
    intro l x V K hK
    dsimp only [encCU]
    gi_wp2
    exact hK
  case hI =>
    rintro pre A C hk ⟨h1, h2, h3, h4, h5, h6⟩
    exact ⟨hJ _ _ _ _ (hk.mono (by omega)) h1, hRst _ _ _ hk h2, hk.same _ _ h3 (.inl rfl), Nat.le_trans h4 hk.size, hk.same _ _ h5 (.inl rfl), hk.same _ _ h6 (.inl rfl)⟩
  case hIx =>
    rintro c pre A C hk ⟨rfl, xs, h1⟩
    exact ⟨rfl, xs, hJx _ _ _ (hk.mono (by omega)) h1⟩
  case h0 => exact ⟨hJ1, hRst _ _ _ k2 hR0, b2, by omega, c1', c2⟩
  case done =>
    rintro D xs V hD rfl ⟨h1, h2, h3, h4, -⟩ hR hK
    have kp := Kept.putObj (B := W.heap.size) (.deferred none) (by omega) hK rfl
    gi_wp2_with (fail)
    exact leave1 (fn := Try.f64) hK (fun _ _ => results_none rfl _ _ _) ⟨⟨_, rfl⟩, .inl ⟨_, _, rfl, hJ _ _ _ _ kp h1, hRst _ _ _ kp h2⟩⟩
  case stop =>
    rintro D c pre V hD - ⟨rfl, xs, h1⟩ hK
    have kp := Kept.putObj (B := W.heap.size) (.deferred none) (by omega) hK rfl
    gi_wp2
    exact leave1 (fn := Try.f64) hK (fun _ _ => results_none rfl _ _ _) ⟨⟨_, rfl⟩, .inr ⟨xs, trivial, hJx _ _ _ kp h1⟩⟩
  case body =>
    rintro l pre x V hl _ ⟨h1, h2, h3, h4, hc1, hc2⟩ hRc hadm
    have hpx : x = pre.length ∧ x < n := by
      obtain ⟨t, ht⟩ := hadm
      have h9 := congrArg (fun l => l[pre.length]?) ht
      have h8 := congrArg List.length ht
      simp at h9 h8
      rw [List.getElem?_range (by omega)] at h9
      exact ⟨by simpa using h9, by have := Option.some.inj h9; omega⟩
    obtain ⟨-, hxn⟩ := hpx
    have hm : min 36 (36 * n - x * 36) = 36 := by omega
    obtain ⟨I, hI⟩ : ∃ I, x * 36 = I := ⟨_, rfl⟩
    have hadm2 : pre.map (entAt bl) ++ [entAt bl x] <+: entsU bl n := by
      obtain ⟨t, ht⟩ := hadm
      exact ⟨t.map (entAt bl), by unfold entsU; rw [← ht]; simp⟩
    have hnext : ∀ W3, J (y0 + 3) (pre.map (entAt bl) ++ [entAt bl x]) W3 → J (y0 + 3) ((pre ++ [x]).map (entAt bl)) W3 := fun W3 h => by rw [List.map_append]; exact h
    have hY2 := hY (y0 + 3) _ (entAt bl x) V.drew (by omega) (hJ _ _ _ _ (Kept.drewN _ V 1) h1) (hRst 0 _ _ (Kept.drewN _ V 1) h2) hadm2
    obtain ⟨fn, tmps, assign, body, hy, hRn⟩ := hY2
    have hel : ((bl.drop (36 * x)).take 36).length = 36 := by simp; omega
    obtain ⟨ky, hky⟩ : ∃ k, ((bl.drop (36 * x)).take 36).take 32 = k := ⟨_, rfl⟩
    have hkl : ky.length = 32 := by rw [← hky]; simp; omega
    obtain ⟨q0, hq0⟩ : ∃ q, ((bl.drop (36 * x)).take 36).getD 32 0 = q := ⟨_, rfl⟩
    obtain ⟨q1, hq1⟩ : ∃ q, ((bl.drop (36 * x)).take 36).getD 33 0 = q := ⟨_, rfl⟩
    obtain ⟨q2, hq2⟩ : ∃ q, ((bl.drop (36 * x)).take 36).getD 34 0 = q := ⟨_, rfl⟩
    obtain ⟨q3, hq3⟩ : ∃ q, ((bl.drop (36 * x)).take 36).getD 35 0 = q := ⟨_, rfl⟩
    have hent : entAt bl x = ⟨ky, q0.toNat, q1.toNat, (q2.toNat : Int) * 256 + (q3.toNat : Int)⟩ := by unfold entAt decE; rw [hky, hq0, hq1, hq2, hq3]
    have hat : ∀ j v, ((bl.drop (36 * x)).take 36)[j]? = some v → ∀ W, (fun W => W.heap[bb]? = some (.cells #[.slice (some ⟨b, o, none⟩) (36 * n) cap] 54 (0, 0)) ∧ Sl W 1 encU (.slice (some ⟨b, o, none⟩) (36 * n) cap) bl) W → W.cell? ⟨b, o + I + j, none⟩ = some (.int .u8 (v.toNat : Int)) := fun j v hj W hW => by
      obtain ⟨b9, o9, c9, he9, -, -, hc9⟩ := hW.2.open (by rintro rfl; simp at hbl; omega)
      simp only [Value.slice.injEq, Option.some.injEq, Addr.mk.injEq, and_true] at he9
      obtain ⟨⟨rfl, rfl⟩, -, rfl⟩ := he9
      have hjl := (List.getElem?_eq_some_iff.1 hj).1
      rw [hel] at hjl
      rw [List.getElem?_take_of_lt hjl, List.getElem?_drop] at hj
      have h9 := rangeAt_one (hc9 _ _ hj)
      rw [Nat.mul_one, show o + (36 * x + j) = o + I + j by omega] at h9
      exact h9
    have hgd : ∀ i, i < 36 → ((bl.drop (36 * x)).take 36)[i]? = some (((bl.drop (36 * x)).take 36).getD i 0) := fun i hi => by
      rw [List.getD_eq_getElem?_getD, List.getElem?_eq_getElem (by rw [hel]; exact hi)]; rfl
    have sS := hid (fun (W : World) (h : (fun W => W.heap[bb]? = some (.cells #[.slice (some ⟨b, o, none⟩) (36 * n) cap] 54 (0, 0)) ∧ Sl W 1 encU (.slice (some ⟨b, o, none⟩) (36 * n) cap) bl) W) => (show (fun W => W.rangeAt b (o + I) (keyV ky) ∧ W.cell? ⟨b, o + I + 32, none⟩ = some (.int .u8 (q0.toNat : Int)) ∧ W.cell? ⟨b, o + I + 32 + 1, none⟩ = some (.int .u8 (q1.toNat : Int)) ∧ W.cell? ⟨b, o + I + 32 + 2, none⟩ = some (.int .u8 (q2.toNat : Int)) ∧ W.cell? ⟨b, o + I + 32 + 3, none⟩ = some (.int .u8 (q3.toNat : Int))) W from ⟨fun j v hj => by
        unfold keyV at hj
        rw [List.getElem?_map] at hj
        obtain ⟨u, hu, rfl⟩ := Option.map_eq_some_iff.1 hj
        rw [← hky] at hu
        have hjl := (List.getElem?_eq_some_iff.1 hu).1
        rw [List.getElem?_take_of_lt (by simp at hjl; omega)] at hu
        exact hat j u hu W h, by rw [← hq0]; exact hat 32 _ (hgd 32 (by omega)) W h, by rw [← hq1]; exact hat 33 _ (hgd 33 (by omega)) W h, by rw [← hq2]; exact hat 34 _ (hgd 34 (by omega)) W h, by rw [← hq3]; exact hat 35 _ (hgd 35 (by omega)) W h⟩))
    have hst := sS.out V.drew (hRst 0 _ _ (Kept.drewN _ V 1) h2)
    have hyc := cell_blk (w := V.drew) (show V.drew.heap[y0]? = _ from h3) (i := 0) rfl
    have hbuilt := built_ent ky hkl (q0.toNat : Int) (q1.toNat : Int) ((q2.toNat : Int) * 256 + (q3.toNat : Int))
    have hi7 : (Try.prog.info? 46).map (·.size) = some (keyV ky).length := by rw [keyV_len, hkl]; kernel_rfl
    have hso := shl_or q2 q3
    have hwq0 : IntKind.i64.wrap (q0.toNat : Int) = (q0.toNat : Int) := by have := q0.toNat_lt; rw [IntKind.wrap_i64]; omega
    have hwq1 : IntKind.i64.wrap (q1.toNat : Int) = (q1.toNat : Int) := by have := q1.toNat_lt; rw [IntKind.wrap_i64]; omega
    have hwq2 : IntKind.i64.wrap (q2.toNat : Int) = (q2.toNat : Int) := by have := q2.toNat_lt; rw [IntKind.wrap_i64]; omega
    have hwq3 : IntKind.i64.wrap (q3.toNat : Int) = (q3.toNat : Int) := by have := q3.toNat_lt; rw [IntKind.wrap_i64]; omega
    dsimp only [encEv] at hy
    rw [hent] at hy
    rw [hm, hI]
    replace hRn := hid hRn
    replace hnext := hid hnext
    clear hat hgd hent hky hq0 hq1 hq2 hq3 hel hadm hadm2 hY hJ hJx hM hJ0 h1 h2 hm
    gi_upto_region 4 with (fail)
    refine region_outH (S := (fun W => W.rangeAt b (o + I) (keyV ky) ∧ W.cell? ⟨b, o + I + 32, none⟩ = some (.int .u8 (q0.toNat : Int)) ∧ W.cell? ⟨b, o + I + 32 + 1, none⟩ = some (.int .u8 (q1.toNat : Int)) ∧ W.cell? ⟨b, o + I + 32 + 2, none⟩ = some (.int .u8 (q2.toNat : Int)) ∧ W.cell? ⟨b, o + I + 32 + 3, none⟩ = some (.int .u8 (q3.toNat : Int)))) (by kernel_rfl) (by kernel_rfl) rfl hst (fun hHeld => ?_)
    refine wpAnyInH_take (i := 1) (oi := ⟨some 11, _, _, _, _, _⟩) (v := ?_) rfl rfl (by kernel_rfl) (by kernel_rfl) (by kernel_rfl) (fun _ _ _ h => h) (Or.inl ⟨by rfl, ?_⟩) (fun _ => rfl) (by assumption) ?_
    rotate_left
    · intro w hSw; (try dsimp only at hSw); go_simp <;> with_reducible rfl
    try simp only [Act.put, List.setIfInBounds_toArray, List.set_cons_zero, List.set_cons_succ]
    refine wpAnyInH_take (i := 2) (oi := ⟨some 12, _, _, _, _, _⟩) (v := ?_) rfl rfl (by kernel_rfl) (by kernel_rfl) (by kernel_rfl) (fun _ _ _ h => h) (Or.inl ⟨by rfl, ?_⟩) (fun _ => rfl) (by assumption) ?_
    rotate_left
    · intro w hSw; (try dsimp only at hSw); go_simp <;> with_reducible rfl
    try simp only [Act.put, List.setIfInBounds_toArray, List.set_cons_zero, List.set_cons_succ]
    refine wpAnyInH_take (i := 3) (oi := ⟨some 13, _, _, _, _, _⟩) (v := ?_) rfl rfl (by kernel_rfl) (by kernel_rfl) (by kernel_rfl) (fun _ _ _ h => h) (Or.inl ⟨by rfl, ?_⟩) (fun _ => rfl) (by assumption) ?_
    rotate_left
    · intro w hSw; (try dsimp only at hSw); go_simp; rw [run_arrayAt _ 46 5 32 _ 32 36 Try.underlying46 (by decide)]; first | done | rfl
    try simp only [Act.put, List.setIfInBounds_toArray, List.set_cons_zero, List.set_cons_succ]
    refine wpAnyInH_take (i := 4) (oi := ⟨some 14, _, _, _, _, _⟩) rfl rfl (by kernel_rfl) (by kernel_rfl) (by kernel_rfl) (fun _ _ _ h => h) (yieldsIf_load_mid (by rfl) 46 _ rfl b (o + I) rfl (keyV ky) _ (fun w h => h.1) Try.underlying46 rfl hi7) (fun _ => rfl) (by assumption) ?_
    try simp only [Act.put, List.setIfInBounds_toArray, List.set_cons_zero, List.set_cons_succ]
    refine wpAnyInH_take (i := 5) (oi := ⟨some 15, _, _, _, _, _⟩) (v := ?_) rfl rfl (by kernel_rfl) (by kernel_rfl) (by kernel_rfl) (fun _ _ _ h => h) (Or.inl ⟨by rfl, ?_⟩) (fun _ => rfl) (by assumption) ?_
    rotate_left
    · intro w hSw; (try dsimp only at hSw); go_simp <;> with_reducible rfl
    try simp only [Act.put, List.setIfInBounds_toArray, List.set_cons_zero, List.set_cons_succ]
    refine wpAnyInH_take (i := 6) (oi := ⟨some 16, _, _, _, _, _⟩) (v := ?_) rfl rfl (by kernel_rfl) (by kernel_rfl) (by kernel_rfl) (fun _ _ _ h => h) (Or.inl ⟨by rfl, ?_⟩) (fun _ => rfl) (by assumption) ?_
    rotate_left
    · intro w hSw; (try dsimp only at hSw); go_simp <;> with_reducible rfl
    try simp only [Act.put, List.setIfInBounds_toArray, List.set_cons_zero, List.set_cons_succ]
    refine wpAnyInH_take (i := 7) (oi := ⟨some 17, _, _, _, _, _⟩) (v := ?_) rfl rfl (by kernel_rfl) (by kernel_rfl) (by kernel_rfl) (fun _ _ _ h => h) (Or.inl ⟨by rfl, ?_⟩) (fun _ => rfl) (by assumption) ?_
    rotate_left
    · intro w hSw; (try dsimp only at hSw); go_simp <;> with_reducible rfl
    try simp only [Act.put, List.setIfInBounds_toArray, List.set_cons_zero, List.set_cons_succ]
    refine wpAnyInH_take (i := 8) (oi := ⟨some 18, _, _, _, _, _⟩) (v := ?_) rfl rfl (by kernel_rfl) (by kernel_rfl) (by kernel_rfl) (fun _ _ _ h => h) (Or.inl ⟨by rfl, ?_⟩) (fun _ => rfl) (by assumption) ?_
    rotate_left
    · intro w hSw; (try dsimp only at hSw); go_simp <;> with_reducible rfl
    try simp only [Act.put, List.setIfInBounds_toArray, List.set_cons_zero, List.set_cons_succ]
    refine wpAnyInH_take (i := 9) (oi := ⟨some 19, _, _, _, _, _⟩) (v := ?_) rfl rfl (by kernel_rfl) (by kernel_rfl) (by kernel_rfl) (fun _ _ _ h => h) (Or.inl ⟨by rfl, ?_⟩) (fun _ => rfl) (by assumption) ?_
    rotate_left
    · intro w hSw; (try dsimp only at hSw); go_simp <;> with_reducible rfl
    try simp only [Act.put, List.setIfInBounds_toArray, List.set_cons_zero, List.set_cons_succ]
    refine wpAnyInH_take (i := 10) (oi := ⟨some 20, _, _, _, _, _⟩) (v := ?_) rfl rfl (by kernel_rfl) (by kernel_rfl) (by kernel_rfl) (fun _ _ _ h => h) (Or.inl ⟨by rfl, ?_⟩) (fun _ => rfl) (by assumption) ?_
    rotate_left
    · intro w hSw; (try dsimp only at hSw); go_simp <;> with_reducible rfl
    try simp only [Act.put, List.setIfInBounds_toArray, List.set_cons_zero, List.set_cons_succ]
    refine wpAnyInH_take (i := 11) (oi := ⟨some 21, _, _, _, _, _⟩) (v := ?_) rfl rfl (by kernel_rfl) (by kernel_rfl) (by kernel_rfl) (fun _ _ _ h => h) (Or.inl ⟨by rfl, ?_⟩) (fun _ => rfl) (by assumption) ?_
    rotate_left
    · intro w hSw; (try dsimp only at hSw); go_simp <;> with_reducible rfl
    try simp only [Act.put, List.setIfInBounds_toArray, List.set_cons_zero, List.set_cons_succ]
    refine wpAnyInH_take (i := 12) (oi := ⟨some 22, _, _, _, _, _⟩) (v := ?_) rfl rfl (by kernel_rfl) (by kernel_rfl) (by kernel_rfl) (fun _ _ _ h => h) (Or.inl ⟨by rfl, ?_⟩) (fun _ => rfl) (by assumption) ?_
    rotate_left
    · intro w hSw; (try dsimp only at hSw); go_simp <;> with_reducible rfl
    try simp only [Act.put, List.setIfInBounds_toArray, List.set_cons_zero, List.set_cons_succ]
    refine wpAnyInH_take (i := 13) (oi := ⟨some 23, _, _, _, _, _⟩) (v := ?_) rfl rfl (by kernel_rfl) (by kernel_rfl) (by kernel_rfl) (fun _ _ _ h => h) (Or.inl ⟨by rfl, ?_⟩) (fun _ => rfl) (by assumption) ?_
    rotate_left
    · intro w hSw; (try dsimp only at hSw); go_simp <;> with_reducible rfl
    try simp only [Act.put, List.setIfInBounds_toArray, List.set_cons_zero, List.set_cons_succ]
    refine wpAnyInH_take (i := 14) (oi := ⟨some 24, _, _, _, _, _⟩) (v := ?_) rfl rfl (by kernel_rfl) (by kernel_rfl) (by kernel_rfl) (fun _ _ _ h => h) (Or.inl ⟨by rfl, ?_⟩) (fun _ => rfl) (by assumption) ?_
    rotate_left
    · intro w hSw; (try dsimp only at hSw); go_simp <;> with_reducible rfl
    try simp only [Act.put, List.setIfInBounds_toArray, List.set_cons_zero, List.set_cons_succ]
    refine wpAnyInH_take (i := 15) (oi := ⟨some 25, _, _, _, _, _⟩) (v := ?_) rfl rfl (by kernel_rfl) (by kernel_rfl) (by kernel_rfl) (fun _ _ _ h => h) (Or.inl ⟨by rfl, ?_⟩) (fun _ => rfl) (by assumption) ?_
    rotate_left
    · intro w hSw; (try dsimp only at hSw); go_simp <;> with_reducible rfl
    try simp only [Act.put, List.setIfInBounds_toArray, List.set_cons_zero, List.set_cons_succ]
    refine wpAnyInH_take (i := 16) (oi := ⟨some 26, _, _, _, _, _⟩) (v := ?_) rfl rfl (by kernel_rfl) (by kernel_rfl) (by kernel_rfl) (fun _ _ _ h => h) (Or.inl ⟨by rfl, ?_⟩) (fun _ => rfl) (by assumption) ?_
    rotate_left
    · intro w hSw; (try dsimp only at hSw); go_simp <;> with_reducible rfl
    try simp only [Act.put, List.setIfInBounds_toArray, List.set_cons_zero, List.set_cons_succ]
    refine wpAnyInH_take (i := 17) (oi := ⟨some 27, _, _, _, _, _⟩) (v := ?_) rfl rfl (by kernel_rfl) (by kernel_rfl) (by kernel_rfl) (fun _ _ _ h => h) (Or.inl ⟨by rfl, ?_⟩) (fun _ => rfl) (by assumption) ?_
    rotate_left
    · intro w hSw; (try dsimp only at hSw); go_simp <;> with_reducible rfl
    try simp only [Act.put, List.setIfInBounds_toArray, List.set_cons_zero, List.set_cons_succ]
    refine wpAnyInH_take (i := 18) (oi := ⟨some 28, _, _, _, _, _⟩) (v := ?_) rfl rfl (by kernel_rfl) (by kernel_rfl) (by kernel_rfl) (fun _ _ _ h => h) (Or.inl ⟨by rfl, ?_⟩) (fun _ => rfl) (by assumption) ?_
    rotate_left
    · intro w hSw; (try dsimp only at hSw); go_simp <;> with_reducible rfl
    try simp only [Act.put, List.setIfInBounds_toArray, List.set_cons_zero, List.set_cons_succ]
    refine wpAnyInH_take (i := 19) (oi := ⟨some 29, _, _, _, _, _⟩) (v := ?_) rfl rfl (by kernel_rfl) (by kernel_rfl) (by kernel_rfl) (fun _ _ _ h => h) (Or.inl ⟨by rfl, ?_⟩) (fun _ => rfl) (by assumption) ?_
    rotate_left
    · intro w hSw; (try dsimp only at hSw); go_simp <;> with_reducible rfl
    try simp only [Act.put, List.setIfInBounds_toArray, List.set_cons_zero, List.set_cons_succ]
    refine wpAnyInH_take (i := 20) (oi := ⟨some 30, _, _, _, _, _⟩) (v := ?_) rfl rfl (by kernel_rfl) (by kernel_rfl) (by kernel_rfl) (fun _ _ _ h => h) (Or.inl ⟨by rfl, ?_⟩) (fun _ => rfl) (by assumption) ?_
    rotate_left
    · intro w hSw; (try dsimp only at hSw); go_simp <;> with_reducible rfl
    try simp only [Act.put, List.setIfInBounds_toArray, List.set_cons_zero, List.set_cons_succ]
    refine wpAnyInH_take (i := 21) (oi := ⟨some 31, _, _, _, _, _⟩) (v := ?_) rfl rfl (by kernel_rfl) (by kernel_rfl) (by kernel_rfl) (fun _ _ _ h => h) (Or.inl ⟨by rfl, ?_⟩) (fun _ => rfl) (by assumption) ?_
    rotate_left
    · intro w hSw; (try dsimp only at hSw); go_simp <;> with_reducible rfl
    try simp only [Act.put, List.setIfInBounds_toArray, List.set_cons_zero, List.set_cons_succ]
    refine wpAnyInH_take (i := 22) (oi := ⟨some 32, _, _, _, _, _⟩) (v := ?_) rfl rfl (by kernel_rfl) (by kernel_rfl) (by kernel_rfl) (fun _ _ _ h => h) (Or.inl ⟨by rfl, ?_⟩) (fun _ => rfl) (by assumption) ?_
    rotate_left
    · intro w hSw; (try dsimp only at hSw); go_simp <;> with_reducible rfl
    try simp only [Act.put, List.setIfInBounds_toArray, List.set_cons_zero, List.set_cons_succ]
    refine wpAnyInH_take (i := 23) (oi := ⟨some 33, _, _, _, _, _⟩) rfl rfl (by kernel_rfl) (by kernel_rfl) (by kernel_rfl) (fun _ _ _ h => h) (yieldsIf_build (by rfl) 48 _ rfl _ (by (simp only [List.map_toArray, List.map_cons, List.map_nil]); exact hbuilt)) (fun _ => rfl) (by assumption) ?_
    try simp only [Act.put, List.setIfInBounds_toArray, List.set_cons_zero, List.set_cons_succ]
    refine wpAnyInH_ready (rs := [0]) (by kernel_rfl) (by simp) ?_
    refine AllReadyInH.cons rfl (fun K hK => ?_) AllReadyInH.nil
    go_simp
    first | refine hK.out _ _ (by assumption) (fun hHeld => ?_) | refine ⟨trivial, hK.out _ _ (by assumption) (fun hHeld => ?_)⟩ | refine ⟨fun _ _ => trivial, hK.out _ _ (by assumption) (fun hHeld => ?_)⟩
    clear hK K
    try simp only [Act.put, List.setIfInBounds_toArray, List.set_cons_zero, List.set_cons_succ]
    refine wpAnyInH_ready (rs := [24]) (by kernel_rfl) (by simp) ?_
    refine AllReadyInH.cons rfl (fun K hK => ?_) AllReadyInH.nil
    go_simp
    refine ⟨rfl, hRn.out.mono ?_⟩
    rintro e W3 hcs
    obtain ⟨r, rfl, hh⟩ := one_way hcs
    first | refine hK.out _ _ (sS.out _ hh.out.1) (fun hHeld => ?_) | refine ⟨trivial, hK.out _ _ (sS.out _ hh.out.1) (fun hHeld => ?_)⟩ | refine ⟨fun _ _ => trivial, hK.out _ _ (sS.out _ hh.out.1) (fun hHeld => ?_)⟩
    clear hK K
    try simp only [Act.put, List.setIfInBounds_toArray, List.set_cons_zero, List.set_cons_succ]
    refine wpAnyInH_take (i := 25) (oi := ⟨some 35, _, _, _, _, _⟩) (v := ?_) rfl rfl (by kernel_rfl) (by kernel_rfl) (by kernel_rfl) (fun _ _ _ h => h) (Or.inl ⟨by rfl, ?_⟩) (fun _ => rfl) (by assumption) ?_
    rotate_left
    · intro w hSw; (try dsimp only at hSw); go_simp <;> with_reducible rfl
    try simp only [Act.put, List.setIfInBounds_toArray, List.set_cons_zero, List.set_cons_succ]
    refine wpAnyInH_done (by kernel_rfl) ?_ _
    clear hHeld hst hRn hy
    cases r with
    | true =>
      rcases hh.out.2 with ⟨-, hJ3, hK3⟩ | ⟨h9, -⟩
      · have hR3 := hh.out.1
        gi_wp2_with (fail)
        exact ⟨⟨hK3.size, fun k o hB hk ho => hK3.same k o (by omega) hk (.inl ho)⟩, ⟨cell_blk (i := 0) (hK3.same _ _ (by omega) hc1 (.inr (by omega))) rfl, cell_blk (i := 0) (hK3.same _ _ (by omega) hc2 (.inr (by omega))) rfl⟩, hnext.out W3 hJ3, hR3, hK3.same _ _ (by omega) h3 (.inr (by omega)), Nat.le_trans h4 hK3.size, hK3.same _ _ (by omega) hc1 (.inr (by omega)), hK3.same _ _ (by omega) hc2 (.inr (by omega))⟩
      · cases h9
    | false =>
      rcases hh.out.2 with ⟨h9, -⟩ | ⟨-, hJ3, hK3⟩
      · cases h9
      · gi_wp2_with (fail)
        exact ⟨⟨hK3.size, fun k o hB hk ho => hK3.same k o (by omega) hk (.inl ho)⟩, rfl, _, hJ3⟩
end Go.Proofs.Ytomgjapjeckokaa
