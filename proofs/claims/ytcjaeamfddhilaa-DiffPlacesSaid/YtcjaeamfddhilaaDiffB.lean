/- The walks of diff's iterator and of what ranges over it. -/
import Derived.Test.YtcjaeamfddhilaaDiffA
import Derived.Test.YtcjaeamfddhilaaRange
namespace Go.Proofs.Ytcjaeamfddhilaa
open Go.RowKit Go.Shelf
attribute [local go_sem] Oper.semAt_some

def PlR (ba bb : Nat) (va vb : Value) (a b : List (List Int)) (W : World) : Prop :=
  W.cell? ⟨ba, 0, none⟩ = some va ∧ W.cell? ⟨bb, 0, none⟩ = some vb ∧ Sl W 32 u8s va a ∧ Sl W 32 u8s vb b

theorem PlR.st {ba bb : Nat} {va vb : Value} {a b : List (List Int)} (B : Nat) : St B (PlR ba bb va vb a b) :=
  fun _ _ hk ⟨h1, h2, h3, h4⟩ => ⟨hk.cell h1, hk.cell h2, hk.sl h3, hk.sl h4⟩

def plEnc (x : Nat × Int) : Array Value := #[.int .i64 x.1, .int .i64 x.2]
def plList (a b : List (List Int)) : List (Nat × Int) := (List.range (max a.length b.length)).map fun i => (i, kindL a b i)

set_option maxRecDepth 100000 in
set_option maxHeartbeats 1000000 in
theorem places1_seq (ba bb : Nat) (va vb : Value) (a b : List (List Int)) (hx : ∀ x ∈ a, x.length = 32) (hy : ∀ x ∈ b, x.length = 32) :
    Seq Try.prog 16 #[.pointer (some ⟨ba, 0, none⟩), .pointer (some ⟨bb, 0, none⟩)] plEnc (PlR ba bb va vb a b) (fun pre x _ => pre ++ [x] <+: plList a b) (fun xs _ => xs = plList a b) (fun _ _ => True) := by
  intro l J Jx W hJ hJx hY h0 hR0
  obtain ⟨hca, hcb, hsa, hsb⟩ := hR0
  obtain ⟨pa, ca, rfl, hla⟩ := hsa.shape
  obtain ⟨pb, cb, rfl, hlb⟩ := hsb.shape
  unfold maxLen at hla hlb
  refine calls_of_wpIn Try.func16 rfl ?_
  simp only [Try.ntmps16, List.size_toArray, List.length_cons, List.length_nil, Nat.reduceAdd, Nat.reduceSub, Array.replicate_succ, Array.replicate_zero, List.push_toArray, List.append_toArray, List.nil_append, List.cons_append]
  gi_wp2
  all_goals
    gi_loopw [10] (fun i wr => ∃ k : Nat, k ≤ max a.length b.length ∧ i = .int .i64 k ∧ J ((plList a b).take k) wr ∧ PlR ba bb (.slice pa a.length ca) (.slice pb b.length cb) a b wr) (fun i _ => max a.length b.length - (intOf i).toNat)
    case atStart => exact ⟨0, Nat.zero_le _, rfl, h0, ⟨hca, hcb, hsa, hsb⟩⟩
    case round =>
      obtain ⟨k, hk, rfl, hJs, hRs⟩ := hrel
      by_cases hlt : k < max a.length b.length
      · obtain ⟨wca, wcb, wsa, wsb⟩ := hRs
        have hkd := kind_any wr _ _ a b k hx hy wsa wsb (by unfold maxLen; omega)
        gi_wp2_with (fail)
        refine ⟨trivial, rfl, (callsIn_wide.2 hkd).mono ?_⟩
        rintro e w' ⟨rfl, n, rfl⟩
        have kd : Kept W.heap.size wr (wr.drewN n) := Kept.drewN _ _ _
        have hR2 : PlR ba bb (.slice pa a.length ca) (.slice pb b.length cb) a b (wr.drewN n) := PlR.st _ _ _ kd ⟨wca, wcb, wsa, wsb⟩
        have hadm : (plList a b).take k ++ [(k, kindL a b k)] <+: plList a b := by
          have : (plList a b).take k ++ [(k, kindL a b k)] = (plList a b).take (k + 1) := by
            rw [List.take_succ_eq_append_getElem (by simp [plList]; omega)]; simp [plList]
          rw [this]; exact List.take_prefix _ _
        obtain ⟨fn, tmps, assign, body, hy, hR⟩ := hY _ (k, kindL a b k) (wr.drewN n) (hJ _ _ _ kd hJs) hR2 hadm
        dsimp only [plEnc] at hy
        have hk1 : (plList a b).take (k + 1) = (plList a b).take k ++ [(k, kindL a b k)] := by
          rw [List.take_succ_eq_append_getElem (by simp [plList]; omega)]; simp [plList]
        have Hk1 := hid hk1
        clear hk1
        gi_wp2
        refine ⟨rfl, hR.mono ?_⟩
        rintro e W3 (⟨rfl, hJ3, hR3⟩ | ⟨rfl, hJx3⟩)
        · have hR3' := hR3
          obtain ⟨x1, x2, x3, x4⟩ := hR3
          gi_wp2
          go_roundw
          case rel => exact ⟨k + 1, by omega, by go_num, by rw [Hk1.out]; exact hJ3, hR3'⟩
          case measure => simp [intOf]; omega
        · gi_wp2
          refine bodyPost_ret (results_none rfl _ _ _) rfl ?_
          exact ⟨⟨_, rfl⟩, .inr ⟨_, trivial, hJx3⟩⟩
      · gi_wp2
        go_end0
        refine ⟨⟨_, rfl⟩, .inl ⟨_, rfl, ?_, hRs⟩⟩
        rwa [List.take_of_length_le (by simp [plList]; omega)] at hJs

set_option maxHeartbeats 400000 in
theorem places_any (w : World) (va vb : Value) (pa pb : Option Addr) (na nb ca cb : Nat) (ea : va = .slice pa na ca) (eb : vb = .slice pb nb cb) :
    Calls Try.prog 14 #[va, vb] w fun e w' =>
      e = .returned (.func (.func 16) #[] #[.pointer (some ⟨w.heap.size, 0, none⟩), .pointer (some ⟨w.heap.size + 1, 0, none⟩)]) ∧
      w' = (w.alloc (.cells #[va] 22)).alloc (.cells #[vb] 22) := by
  subst ea eb
  go_enter Try.func14, Try.ntmps14
  go_wp2
  go_ret
  exact ⟨rfl, rfl⟩

set_option maxHeartbeats 400000 in
theorem Clip_any (w : World) (p : Option Addr) (n c : Nat) (h : n ≤ c) (hm : c ≤ maxLen) :
    Calls Try.prog 15 #[.slice p n c] w fun e w' => e = .returned (.slice p n n) ∧ w = w' := by
  unfold maxLen at hm
  go_enter Try.func15, Try.ntmps15
  go_wp2
  all_goals go_ret
  all_goals exact ⟨by simp, rfl⟩

def code (x : Nat × Int) : Option Int := if 0 < x.2 then some (4 * x.1 + x.2) else none
def codes (l : List (Nat × Int)) : List Int := l.filterMap code
theorem codes_hit (l : List (Nat × Int)) (x : Nat × Int) (h : 0 < x.2) : codes (l ++ [x]) = codes l ++ [4 * x.1 + x.2] := by simp [codes, code, h]
theorem codes_miss (l : List (Nat × Int)) (x : Nat × Int) (h : ¬ 0 < x.2) : codes (l ++ [x]) = codes l := by simp [codes, code, h]
theorem codes_len (l : List (Nat × Int)) : (codes l).length ≤ l.length := List.length_filterMap_le _ _

theorem kindL_bd (a b : List (List Int)) (i : Nat) : 0 ≤ kindL a b i ∧ kindL a b i ≤ 3 := by
  unfold kindL; split
  · omega
  · split
    · omega
    · split <;> omega
theorem pl_adm {a b : List (List Int)} {pre : List (Nat × Int)} {x : Nat × Int} (h : pre ++ [x] <+: plList a b) : x.1 = pre.length ∧ x.1 < max a.length b.length ∧ 0 ≤ x.2 ∧ x.2 ≤ 3 := by
  obtain ⟨t, ht⟩ := h
  have hl : pre.length < (plList a b).length := by rw [← ht]; simp
  have hx : (plList a b)[pre.length] = x := by simp [← ht]
  simp [plList] at hx hl
  subst hx
  exact ⟨rfl, by simp; omega, kindL_bd a b _⟩

theorem Try.infoI : (Try.prog.info? 3).map (fun i => (i.zero, i.size, i.bytes)) = some (some (.int .i64 0), 1, 8) := by kernel_rfl

set_option maxRecDepth 100000 in
set_option maxHeartbeats 1000000 in
theorem List_any (w : World) (va vb : Value) (a b : List (List Int)) (hx : ∀ x ∈ a, x.length = 32) (hy : ∀ x ∈ b, x.length = 32) (ha : Sl w 32 u8s va a) (hb : Sl w 32 u8s vb b) (la : a.length ≤ 1000) (lb : b.length ≤ 1000) :
    Calls Try.prog 8 #[va, vb] w fun e w' => ∃ v, e = .returned v ∧ Sl w' 1 encI v (codes (plList a b)) ∧ Below w.heap.size w w' := by
  obtain ⟨pa, ca, rfl, hla⟩ := ha.shape
  obtain ⟨pb, cb, rfl, hlb⟩ := hb.shape
  obtain ⟨i0, hi, hz0, hz1, hz2⟩ := info_parts Try.infoI
  refine calls_of_marks Try.func8 rfl ?_
  simp only [Try.ntmps8, List.size_toArray, List.length_cons, List.length_nil, Nat.reduceAdd, Nat.reduceSub, Array.replicate_succ, Array.replicate_zero, List.push_toArray, List.append_toArray, List.nil_append, List.cons_append]
  gi_wp2_with (fail)
  refine ⟨trivial, rfl, (callsIn_wide.2 (places_any _ _ _ _ _ _ _ _ _ rfl rfl)).mono ?_⟩
  rintro e w' ⟨rfl, rfl⟩
  gi_wp2_with (fail)
  have bO := Boxed.new w 27 (.slice none 0 0)
  have hB0 : Below w.heap.size w (((w.alloc (.cells #[.slice none 0 0] 27)).alloc (.cells #[.slice pa a.length ca] 22)).alloc (.cells #[.slice pb b.length cb] 22)) :=
    (((Below.refl _ w).alloc (Nat.le_refl _) _).alloc (by simp) _).alloc (by simp; omega) _
  have kA : Kept w.heap.size w (((w.alloc (.cells #[.slice none 0 0] 27)).alloc (.cells #[.slice pa a.length ca] 22)).alloc (.cells #[.slice pb b.length cb] 22)) := Kept.of_below hB0 _
  have cA := (Boxed.new (w.alloc (.cells #[.slice none 0 0] 27)) 22 (.slice pa a.length ca)).alloc (.cells #[.slice pb b.length cb] 22)
  have cB := Boxed.new ((w.alloc (.cells #[.slice none 0 0] 27)).alloc (.cells #[.slice pa a.length ca] 22)) 22 (.slice pb b.length cb)
  simp only [World.size_alloc] at cA cB
  refine range_p (act := ?act) rfl (enters_of Try.func16 (by kernel_rfl) rfl) (places1_seq (w.heap.size + 1) (w.heap.size + 2) _ _ a b hx hy) (fun _ => rfl)
    (fun pre W => (∃ v, Boxed W w.heap.size 27 v ∧ W.ownsRow w.heap.size 3 1 v (codes pre).length ((codes pre).flatMap encI)) ∧
      (Boxed W (w.heap.size + 1) 22 (.slice pa a.length ca) ∧ Boxed W (w.heap.size + 2) 22 (.slice pb b.length cb)) ∧ Below w.heap.size w W)
    (fun _ _ _ => False)
    (fun s => St.and (St.ex fun v => St.and St.boxed St.owns) (St.and (St.and St.boxed St.boxed) (St.below (by simp; omega) (Nat.le_refl _))))
    (fun _ _ _ _ _ h => h) (fun B => PlR.st B) (fun _ _ => St.pure _) (fun _ => St.pure _) (fun _ => St.pure _)
    ⟨⟨_, (bO.alloc _).alloc _, World.ownsRow_nil _ _ _ _⟩, ⟨cA, cB⟩, hB0⟩ ⟨cA.cell, cB.cell, kA.sl ha, kA.sl hb⟩ ?assign ?body ?done ?stop
  case assign =>
    intro l x W K hK
    dsimp only [plEnc]
    gi_wp2
    exact hK
  case body =>
    rintro l pre x W hl _ ⟨⟨v, hv, hrow⟩, ⟨b1, b2⟩, hB⟩ hR hadm
    obtain ⟨h1, h2, h3, h4⟩ := pl_adm hadm
    have hc := hv.cell
    have hpl : (codes pre).length ≤ pre.length := codes_len _
    have n1 := b1.not_row (by decide) hrow
    have n2 := b2.not_row (by decide) hrow
    by_cases hpos : 0 < x.2
    · gi_wp2_with (gi_at_builtin; go_must (refine wpListIn_append_own _ rfl _ _ 27 rfl w.heap.size 3 i0 (.int .i64 0) 1 8 Try.underlying27 hi hz0 hz1 hz2 rfl (by decide) _ _ _ rfl (hrow.alloc _) ⟨W.heap.size, 0, none⟩ 1 1 [.int .i64 (4 * pre.length + x.2)] rfl rfl (cell_one_new _ _ _) (by simp [Value.oneCell']) (by unfold maxLen; omega) (by omega) (by have := hB.size; simp; omega) ?_; intro v' w1 hown' hgrow _; obtain ⟨g', cap', rfl⟩ := ownsRow_succ hown'; obtain ⟨hv1, hv2, hr2, hk2, hb2⟩ := hv.appended (by decide) hrow hB.size (Nat.le_refl _) hown' hgrow; have hc1 := hv1.cell; have hf1 := hv1.frozen; have c1 := ((b1.alloc _).kept hgrow n1).other (B' := w.heap.size) (by omega) (.slice (some ⟨g', 0, none⟩) ((codes pre).length + 1) cap'); have c2 := ((b2.alloc _).kept hgrow n2).other (B' := w.heap.size) (by omega) (.slice (some ⟨g', 0, none⟩) ((codes pre).length + 1) cap')))
      have hB2 := hB.trans hb2
      refine ⟨hk2.from _, ⟨c1.cell, c2.cell, (Kept.of_below hB2 0).sl ha, (Kept.of_below hB2 0).sl hb⟩, ⟨_, hv2, ?_⟩, ⟨c1, c2⟩, hB2⟩
      rw [codes_hit _ _ (by omega)]
      simpa [encI, h1] using hr2
    · gi_wp2
      refine ⟨KeepsFrom.refl _ _, hR, ⟨v, hv, ?_⟩, ⟨b1, b2⟩, hB⟩
      rw [codes_miss _ _ (by omega)]; exact hrow
  case done =>
    rintro D ys W hD rfl ⟨⟨v, hv, hrow⟩, -, hB⟩ hR hK
    have hc := hv.cell
    obtain ⟨p, cap, rfl, hp1, hp2⟩ := owns_shape hrow
    have hsl := sl_of_owns (enc := encI) (fun _ _ => rfl) hrow
    gi_wp2_with (fail)
    refine ⟨trivial, rfl, (callsIn_wide.2 (Clip_any _ _ _ _ hp1 hp2)).mono ?_⟩
    rintro e w' ⟨rfl, rfl⟩
    gi_wp2
    refine leave1 hK (fun _ _ => results_tmp rfl _ _ _) ⟨_, rfl, ?_, ?_⟩
    · exact (Kept.putObj (B := 0) _ (Nat.zero_le _) hK rfl).sl hsl.clip
    · exact (Kept.putObj (B := w.heap.size) (.deferred none) (by simp at hD; omega) hK rfl).below (Nat.le_refl _) (Nat.le_refl _) hB
  case stop =>
    rintro D c pre W _ _ h _
    exact h.elim
end Go.Proofs.Ytcjaeamfddhilaa
