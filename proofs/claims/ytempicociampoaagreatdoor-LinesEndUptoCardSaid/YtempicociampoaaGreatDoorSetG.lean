/- The walk of measure.Line. -/
import Derived.Test.YtempicociampoaaGreatDoorJ5
import Derived.Sort.CutIn
import Derived.IntWalk
namespace Go.Proofs.YtempicociampoaaGreatDoor
open Go.RowKit Go.Shelf
attribute [local go_sem] Oper.semAt_some

theorem upto_cases (n : Int) (len : Nat) : (n < 0 ∧ upto n len = 0) ∨ (n = 0 ∧ (len : Int) = 0 ∧ upto n len = 0) ∨ (n = 0 ∧ 0 < (len : Int) ∧ upto n len = 0) ∨ (0 < n ∧ (len : Int) = 0 ∧ upto n len = 0) ∨
    (0 < n ∧ n < len ∧ (upto n len : Int) = n) ∨ (n = len ∧ 0 < (len : Int) ∧ (upto n len : Int) = len) ∨ ((len : Int) < n ∧ 0 < (len : Int) ∧ (upto n len : Int) = len) := by
  unfold upto; omega
theorem upto_le (n : Int) (len : Nat) : upto n len ≤ len := by unfold upto; omega

def sumC (s : Sm) : Array Value := #[.int .i64 s.w, .int .i64 s.y, .int .i64 s.z]

theorem sum_result {W : World} {tmps : Array Value} {g : Nat} {s : Sm} (hp : tmps.getD 6 undef = .pointer (some ⟨g, 0, none⟩)) (hg : W.heap[g]? = some (.cells (sumC s) 126 (0, 0))) :
    (results Tryz.f76 tmps).run Tryz.prog W = .ok (.agg (sumC s)) W := by
  have hk : (Tryz.prog.underlying 126).any TypeDesc.isRow = true := by kernel_rfl
  obtain ⟨d, hu, hr⟩ : ∃ d, Tryz.prog.underlying 126 = some d ∧ TypeDesc.isRow d = true := by
    cases h : Tryz.prog.underlying 126 with
    | none => rw [h] at hk; cases hk
    | some d => rw [h] at hk; exact ⟨d, rfl, hk⟩
  exact results_cell_row (P := Tryz.prog) (fn := Tryz.f76) rfl _ _ g _ _ _ d hp hg hu (by cases d <;> first | rfl | cases hr) (by kernel_rfl)

theorem line_out {w W W' : World} {tmps : Array Value} {D : Nat} {s s0 : Sm} (hp : tmps.getD 6 undef = .pointer (some ⟨w.heap.size, 0, none⟩)) (hU : Upd w.heap.size (sumC s) 126 W W')
    (hK : W.heap[D]? = some (.deferred (some []))) (hD : w.heap.size < D) (hB : Below w.heap.size w W) (hs : s0 = s) :
    bodyPostM Fence.wide 0 Tryz.prog Tryz.f76 (fun e w' => e = .returned (.agg (sumC s0)) ∧ Below w.heap.size w w') .ret { tmps := tmps, defers := [{ target := .collected D, args := #[] }] } W' := by
  subst hs
  have hK' : W'.heap[D]? = some (.deferred (some [])) := by rw [hU.off _ (by omega)]; exact hK
  refine leave1 hK' (fun W2 hk => sum_result hp (hk.same _ _ hU.here (.inl rfl))) ⟨rfl, ?_⟩
  exact (Kept.putObj (B := w.heap.size) (.deferred none) (by omega) hK' rfl).below (Nat.le_refl _) (Nat.le_refl _) (hU.below hB (Nat.le_refl _))

set_option maxRecDepth 100000 in
set_option maxHeartbeats 2000000 in
theorem MLine_any (v : Value) (l : List It) (n t : Int) (w : World) (hl : Sl w 6 encIt v l) (hle : l.length ≤ 5000) (hn : w64 n) (ht : w64 t) (hok : ∀ x ∈ l, x.ok) :
    Calls Tryz.prog 76 #[v, .int .i64 n, .int .i64 t] w fun e w' => e = .returned (.agg (sumC (lineSm l (firstL l n) (upto t l.length)))) ∧ Below w.heap.size w w' := by
  have hF := First_any v l n w hl hle hn
  obtain ⟨t1, t2⟩ := ht
  obtain ⟨p, cap, rfl, hmx⟩ := hl.shape
  clear hmx
  have hup := upto_le t l.length
  have htc := upto_cases t l.length
  have Hok := hid hok
  clear hok
  have Hl := hid hl
  clear hl
  have hfl := fst_le l (from1 n l.length)
  rw [show fst l (from1 n l.length) = firstL l n from rfl] at hfl
  have hW := fun w => within_any w (.slice p l.length cap) p l.length cap n (upto t l.length) rfl
  have hS := fun w => within1_seq (w + 1) (w + 2) (w + 3) (.slice p l.length cap) n (upto t l.length) l hle hn hup
  have HS := hid hS
  clear hS
  obtain ⟨f, hf⟩ : ∃ f, firstL l n = f := ⟨_, rfl⟩
  rw [hf] at hF hfl ⊢
  obtain ⟨T, hT⟩ : ∃ T, upto t l.length = T := ⟨_, rfl⟩
  rw [hT] at hW HS hup htc ⊢
  clear hT
  replace HW := hid hW
  clear hW
  have HF := hid (fun w' (h : Kept 0 w w') => First_any (.slice p l.length cap) l n w' (h.sl Hl.out) hle hn)
  clear hF
  rw [hf] at HF
  refine calls_of_marks Tryz.func76 rfl ?_
  simp only [Tryz.ntmps76, List.size_toArray, List.length_cons, List.length_nil, Nat.reduceAdd, Nat.reduceSub, Array.replicate_succ, Array.replicate_zero, List.push_toArray, List.append_toArray, List.nil_append, List.cons_append]
  have fin0 : ∀ T, ¬ f < T → Hid (lineSm l f T = ⟨0, 0, 0⟩) := fun T h => if_neg h
  have k1 : ∀ o, Kept 0 w (w.alloc o) := fun o => Kept.alloc 0 w o
  have B1 : ∀ o, Below w.heap.size w (w.alloc o) := fun o => (Below.refl _ w).alloc (Nat.le_refl _) o
  rcases htc with ⟨c1, rfl⟩ | ⟨rfl, c1, rfl⟩ | ⟨rfl, c1, rfl⟩ | ⟨c0, c1, rfl⟩ | ⟨c0, c1, c2⟩ | ⟨rfl, c0, c2⟩ | ⟨c1, c0, c2⟩
  iterate 4
    · gi_wp2_with (fail)
      refine ⟨trivial, rfl, (callsIn_wide.2 (HF.out _ (k1 _))).mono ?_⟩
      rintro e w' ⟨rfl, rfl⟩
      gi_wp2
      exact ⟨_, sum_result rfl (World.alloc_heap_new w _), by rw [(fin0 0 (by omega)).out], B1 _⟩
  all_goals
    first | (obtain rfl : t = (T : Int) := c2.symm) | (obtain rfl : T = l.length := by omega)
    gi_wp2_with (fail)
    refine ⟨trivial, rfl, (callsIn_wide.2 (HF.out _ (k1 _))).mono ?_⟩
    rintro e w' ⟨rfl, rfl⟩
  · by_cases hlt : f < T
    · gi_wp2_with (fail)
      refine ⟨trivial, rfl, (callsIn_wide.2 (HW.out _)).mono ?_⟩
      rintro e w' ⟨rfl, rfl⟩
      gi_wp2_with (fail)
      have bR := World.alloc_heap_new w (.cells #[.int .i64 0, .int .i64 0, .int .i64 0] 126)
      have bS := World.alloc_heap_new (w.alloc (.cells #[.int .i64 0, .int .i64 0, .int .i64 0] 126)) (.cells #[.int .i64 0, .int .i64 0, .int .i64 0] 126)
      rw [World.size_alloc] at bS
      have b2 := World.alloc_heap_new ((w.alloc (.cells #[.int .i64 0, .int .i64 0, .int .i64 0] 126)).alloc (.cells #[.int .i64 0, .int .i64 0, .int .i64 0] 126)) (.cells #[.slice p l.length cap] 40)
      have b3 := World.alloc_heap_new (((w.alloc (.cells #[.int .i64 0, .int .i64 0, .int .i64 0] 126)).alloc (.cells #[.int .i64 0, .int .i64 0, .int .i64 0] 126)).alloc (.cells #[.slice p l.length cap] 40)) (.cells #[.int .i64 n] 3)
      have b4 := World.alloc_heap_new ((((w.alloc (.cells #[.int .i64 0, .int .i64 0, .int .i64 0] 126)).alloc (.cells #[.int .i64 0, .int .i64 0, .int .i64 0] 126)).alloc (.cells #[.slice p l.length cap] 40)).alloc (.cells #[.int .i64 n] 3)) (.cells #[.int .i64 T] 3)
      simp only [World.size_alloc] at b2 b3 b4
      have hB5 := ((((B1 (.cells #[.int .i64 0, .int .i64 0, .int .i64 0] 126)).alloc (by simp) (.cells #[.int .i64 0, .int .i64 0, .int .i64 0] 126)).alloc (by simp; omega) (.cells #[.slice p l.length cap] 40)).alloc (by simp; omega) (.cells #[.int .i64 n] 3)).alloc (by simp; omega) (.cells #[.int .i64 T] 3)
      have hseq := within1_seq (w.heap.size + 2) (w.heap.size + 3) (w.heap.size + 4) (.slice p l.length cap) n T l hle hn hup
      refine range_box rfl (enters_of Tryz.func118 (by kernel_rfl) rfl) hseq (fun _ => rfl)
        (fun pre W => W.heap[w.heap.size + 1]? = some (.cells (sumC (smOf (pre.map Prod.fst))) 126 (0, 0)) ∧ W.heap[w.heap.size]? = some (.cells (sumC ⟨0, 0, 0⟩) 126 (0, 0)) ∧ w.heap.size + 5 ≤ W.heap.size ∧ Below w.heap.size w W)
        (fun _ _ _ => False)
        ?hI (fun _ _ _ _ _ h => h) (fun B => WiR.st B) (fun _ _ => St.pure _) (fun _ => St.pure _) (fun _ => St.pure _) ?hsz ?h0 ?hR0
        ?mk (fun x => (encIt x.1).toArray) 49 ?assign ?body ?done ?stop
      case assign =>
        intro L x j W K hj hK
        dsimp only [wiEnc, encIt] at hK ⊢
        gi_wp2
        exact hK
      case hI => exact fun _ _ _ hk h => ⟨hk.same _ _ h.1 (.inl rfl), hk.same _ _ h.2.1 (.inl rfl), Nat.le_trans h.2.2.1 hk.size, hk.below (by simp; omega) (Nat.le_refl _) h.2.2.2⟩
      case hsz => exact fun _ _ h => by have := h.2.2.1; simp; omega
      case body =>
        rintro L pre x j W hl _ ⟨h1, h2, h3, hB⟩ hR hadm hj hx
        obtain ⟨k, hk1, hk2, hk3, rfl, rfl⟩ := hadm
        have hj1 : w.heap.size + 5 ≤ j := by simpa using hj
        rw [wiL_map] at h1
        have hok := Hok.out _ (List.getElem_mem hk2)
        have hsn := hid (show smOf ((wiL l (firstL l n) k ++ [(l[k], k)]).map Prod.fst) = (smOf (mid l (firstL l n) k)).step l[k] by rw [List.map_append, wiL_map]; exact smOf_snoc _ _)
        have hbd := smMid_bd l (firstL l n) k
        generalize smOf (mid l (firstL l n) k) = s at *
        dsimp only [encIt] at hx ⊢
        obtain ⟨ok1, ok2, ok3, ok4, ok5⟩ := hok
        generalize l[k] = x at *
        obtain ⟨⟨b1, b2⟩, ⟨b3, b4⟩, ⟨b5, b6⟩⟩ := hbd
        have q1 := plain_bd x.w
        have q2 := plain_bd x.y
        have q3 := plain_bd x.z
        have cw := fun w => Plain_any x.w w ok2
        have cy := fun w => Plain_any x.y w ok3
        have cz := fun w => Plain_any x.z w ok4
        have hst : s.step x = ⟨if x.kind = 3 then s.w else s.w + plain x.w, s.y + plain x.y, s.z + plain x.z⟩ := rfl
        rw [hst] at hsn
        clear hst
        generalize plain x.w = pw at *
        generalize plain x.y = py at *
        generalize plain x.z = pz at *
        have s1 : W.cell? ⟨w.heap.size + 1, 0, none⟩ = some (.int .i64 s.w) := cell_blk h1 rfl
        have s2 : W.cell? ⟨w.heap.size + 1, 1, none⟩ = some (.int .i64 s.y) := cell_blk h1 rfl
        have s3 : W.cell? ⟨w.heap.size + 1, 2, none⟩ = some (.int .i64 s.z) := cell_blk h1 rfl
        have z1 := frozen_blk (i := 0) h1
        have z2 := frozen_blk (i := 1) h1
        have z3 := frozen_blk (i := 2) h1
        have x1 := cell_blk (i := 0) hx rfl
        have x2 := cell_blk (i := 1) hx rfl
        have x3 := cell_blk (i := 2) hx rfl
        have x4 := cell_blk (i := 3) hx rfl
        replace cw := hid cw
        replace cy := hid cy
        replace cz := hid cz
        have hne : (w.heap.size + 1 == j) = false := by simp; omega
        obtain ⟨d, hd⟩ : ∃ d, (x.kind != 3) = d := ⟨_, rfl⟩
        have hd2 : (x.kind == 3) = !d := by rw [← hd]; cases h : (x.kind == 3) <;> simp [bne, h]
        have hsw : (if x.kind = 3 then s.w else s.w + pw) = if d then s.w + pw else s.w := by
          rw [← hd]; by_cases h : x.kind = 3 <;> simp [h]
        rw [hsw] at hsn
        clear hsw
        generalize x.kind = kd at *
        have fin : ∀ W', Upd (w.heap.size + 1) (sumC ⟨if d then s.w + pw else s.w, s.y + py, s.z + pz⟩) 126 W W' →
            KeepsFrom (((((w.alloc (.cells #[.int .i64 0, .int .i64 0, .int .i64 0] 126)).alloc (.cells #[.int .i64 0, .int .i64 0, .int .i64 0] 126)).alloc (.cells #[.slice p l.length cap] 40)).alloc (.cells #[.int .i64 n] 3)).alloc (.cells #[.int .i64 T] 3)).heap.size W W' ∧
            WiR (w.heap.size + 2) (w.heap.size + 3) (w.heap.size + 4) (.slice p l.length cap) n T l W' ∧
            (W'.heap[w.heap.size + 1]? = some (.cells (sumC (smOf ((wiL l (firstL l n) k ++ [(x, k)]).map Prod.fst))) 126 (0, 0)) ∧ W'.heap[w.heap.size]? = some (.cells (sumC ⟨0, 0, 0⟩) 126 (0, 0)) ∧ w.heap.size + 5 ≤ W'.heap.size ∧ Below w.heap.size w W') := by
          intro W' hU
          have hB' := hU.below hB (by omega)
          obtain ⟨r1, r2, r3, -⟩ := hR
          refine ⟨hU.from h1 _, ⟨?_, ?_, ?_, (Kept.of_below hB' 0).sl Hl.out⟩, ?_, ?_, ?_, hB'⟩
          · rw [hU.cell (by simp)]; exact r1
          · rw [hU.cell (by simp)]; exact r2
          · rw [hU.cell (by simp)]; exact r3
          · rw [hsn.out]; exact hU.here
          · rw [hU.off _ (by omega)]; exact h2
          · rw [hU.size]; exact h3
        replace fin := hid fin
        gi_upto_if 29 with (fail)
        gi_cut [] from 30 (fun wx => Upd (w.heap.size + 1) (sumC ⟨if d then s.w + pw else s.w, s.y, s.z⟩) 126 W wx)
        case first =>
          rename_i J K2 hJ hK2
          cases d
          · gi_wp2
            first | refine hK2 _ _ (Met.intro (hJ _ _ ?_)) | refine Met.intro (hJ _ _ ?_) | refine hJ _ _ ?_
            (repeat apply Exists.intro)
            refine ⟨?_, rfl⟩
            exact (Upd.refl h1).is rfl
          · gi_wp2
            have r1 : IntKind.i64.wrap (s.w + pw) = s.w + pw := IntWalk.i64_in _ (by omega)
            gi_region_with (refine ⟨trivial, rfl, (CallsIn.inRound L (callsIn_wide.2 (cw.out _))).mono ?_⟩; rintro e w' ⟨rfl, rfl⟩)
            all_goals
              first | refine hK2 _ _ (Met.intro (hJ _ _ ?_)) | refine Met.intro (hJ _ _ ?_) | refine hJ _ _ ?_
              (repeat apply Exists.intro)
              refine ⟨?_, rfl⟩
              exact (((Upd.refl h1).set (i := 0) (.int .i64 (s.w + pw))).drew).is rfl
        case rest =>
          have hc1 := hcut
          have g1 := hcut.here
          have x4' : wc.cell? ⟨j, 3, none⟩ = some (.int .i64 x.z) := by rw [hcut.cell (by simp; omega)]; exact x4
          have s2 : wc.cell? ⟨w.heap.size + 1, 1, none⟩ = some (.int .i64 s.y) := cell_blk g1 rfl
          have z2 : wc.frozen? ⟨w.heap.size + 1, 1, none⟩ = false := frozen_blk g1
          have x3 : wc.cell? ⟨j, 2, none⟩ = some (.int .i64 x.y) := by rw [hcut.cell (by simp; omega)]; exact x3
          gi_wp2
          gi_cut [] from 37 (fun wx => Upd (w.heap.size + 1) (sumC ⟨if d then s.w + pw else s.w, s.y + py, s.z⟩) 126 wc wx)
          case first =>
            rename_i J K2 hJ hK2
            have r1 : IntKind.i64.wrap (s.y + py) = s.y + py := IntWalk.i64_in _ (by omega)
            gi_region_with (refine ⟨trivial, rfl, (CallsIn.inRound L (callsIn_wide.2 (cy.out _))).mono ?_⟩; rintro e w' ⟨rfl, rfl⟩)
            all_goals
              first | refine hK2 _ _ (Met.intro (hJ _ _ ?_)) | refine Met.intro (hJ _ _ ?_) | refine hJ _ _ ?_
              (repeat apply Exists.intro)
              refine ⟨?_, rfl⟩
              exact (((Upd.refl g1).set (i := 1) (.int .i64 (s.y + py))).drew).is rfl
          case rest =>
            have hc2 := hc1.trans hcut
            have g2 := hcut.here
            have s3 : wc.cell? ⟨w.heap.size + 1, 2, none⟩ = some (.int .i64 s.z) := cell_blk g2 rfl
            have z3 : wc.frozen? ⟨w.heap.size + 1, 2, none⟩ = false := frozen_blk g2
            have x4 : wc.cell? ⟨j, 3, none⟩ = some (.int .i64 x.z) := by rw [hcut.cell (by simp; omega)]; exact x4'
            gi_wp2
            have r1 : IntKind.i64.wrap (s.z + pz) = s.z + pz := IntWalk.i64_in _ (by omega)
            gi_region_with (refine ⟨trivial, rfl, (CallsIn.inRound L (callsIn_wide.2 (cz.out _))).mono ?_⟩; rintro e w' ⟨rfl, rfl⟩)
            all_goals
              clear r1
              gi_wp2
              exact fin.out _ (hc2.trans ((((Upd.refl g2).set (i := 2) (.int .i64 (s.z + pz))).drew).is rfl))
      case h0 => exact ⟨((Kept.alloc 0 _ _).trans ((Kept.alloc 0 _ _).trans (Kept.alloc 0 _ _))).same _ _ bS (.inl rfl), (((Kept.alloc 0 _ _).trans ((Kept.alloc 0 _ _).trans ((Kept.alloc 0 _ _).trans (Kept.alloc 0 _ _)))).same _ _ bR (.inl rfl)), by simp, hB5⟩
      case hR0 =>
        refine ⟨cell_blk (((Kept.alloc 0 _ _).trans (Kept.alloc 0 _ _)).same _ _ b2 (.inl rfl)) rfl, cell_blk ((Kept.alloc 0 _ _).same _ _ b3 (.inl rfl)) rfl, cell_blk b4 rfl, (Kept.of_below hB5 0).sl Hl.out⟩
      case done =>
        rintro D xs W hD rfl ⟨h1, h2, h3, hB⟩ hR hK
        rw [wiL_map] at h1
        have hls := hid (show lineSm l f T = ⟨(smOf (mid l f T)).w + penW l T, (smOf (mid l f T)).y, (smOf (mid l f T)).z⟩ from if_pos hlt)
        rw [hf] at h1
        have hbd := smMid_bd l f T
        have hD1 : w.heap.size + 5 ≤ D := by simpa using hD
        generalize smOf (mid l f T) = s at *
        obtain ⟨⟨b1, b2⟩, ⟨b3, b4⟩, ⟨b5, b6⟩⟩ := hbd
        obtain ⟨-, -, -, hsl⟩ := hR
        have s1 : W.cell? ⟨w.heap.size + 1, 0, none⟩ = some (.int .i64 s.w) := cell_blk h1 rfl
        have s2 : W.cell? ⟨w.heap.size + 1, 1, none⟩ = some (.int .i64 s.y) := cell_blk h1 rfl
        have s3 : W.cell? ⟨w.heap.size + 1, 2, none⟩ = some (.int .i64 s.z) := cell_blk h1 rfl
        have z1 := frozen_blk (i := 0) h1
        have r1 : W.cell? ⟨w.heap.size, 0, none⟩ = some (.int .i64 0) := cell_blk h2 rfl
        have r2 : W.cell? ⟨w.heap.size, 1, none⟩ = some (.int .i64 0) := cell_blk h2 rfl
        have r3 : W.cell? ⟨w.heap.size, 2, none⟩ = some (.int .i64 0) := cell_blk h2 rfl
        have y1 := frozen_blk (i := 0) h2
        have y2 := frozen_blk (i := 1) h2
        have y3 := frozen_blk (i := 2) h2
        by_cases hTl : T < l.length
        · obtain ⟨b, o, cap', he, e1, e2, e3⟩ := hsl.open (by rintro rfl; simp at hTl)
          cases he
          obtain ⟨i0, i1, -⟩ := item_cells (e3 T l[T] (List.getElem?_eq_getElem hTl))
          clear e3
          by_cases hk : l[T].kind = 3
          · have hpw := hid (penW_yes hTl hk)
            have hok := (Hok.out _ (List.getElem_mem hTl)).2.1
            generalize l[T] = x at *
            rw [hk] at i0
            have cx := fun w => Plain_any x.w w hok
            have q1 := plain_bd x.w
            generalize plain x.w = pw at *
            replace cx := hid cx
            gi_wp2
            gi_cut [] from 63 (fun wx => Upd (w.heap.size + 1) (sumC ⟨s.w + pw, s.y, s.z⟩) 126 W wx)
            case first =>
              rename_i J K2 hJ hK2
              have r1 : IntKind.i64.wrap (s.w + pw) = s.w + pw := IntWalk.i64_in _ (by omega)
              refine wpIn_mono (Q := Exit.then K2 (fun _ _ _ => False)) ?_ (fun e a w h => by cases e <;> first | exact h | exact h.elim)
              gi_region_with (refine ⟨trivial, rfl, (callsIn_wide.2 (cx.out _)).mono ?_⟩; rintro e w' ⟨rfl, rfl⟩)
              all_goals
                first | refine hK2 _ _ (Met.intro (hJ _ _ ?_)) | refine Met.intro (hJ _ _ ?_) | refine hJ _ _ ?_
                (repeat apply Exists.intro)
                refine ⟨?_, rfl⟩
                exact (((Upd.refl h1).set (i := 0) (.int .i64 (s.w + pw))).drew).is rfl
            case rest =>
              have g1 := hcut.here
              have g2 : wc.heap[w.heap.size]? = some (.cells (sumC ⟨0, 0, 0⟩) 126 (0, 0)) := by rw [hcut.off _ (by omega)]; exact h2
              have hB' := hcut.below hB (by omega)
              have hK' : wc.heap[D]? = some (.deferred (some [])) := by rw [hcut.off _ (by omega)]; exact hK
              clear s1 s2 s3 r1 r2 r3 y1 y2 y3 z1
              have s1 : wc.cell? ⟨w.heap.size + 1, 0, none⟩ = some (.int .i64 (s.w + pw)) := cell_blk g1 rfl
              have s2 : wc.cell? ⟨w.heap.size + 1, 1, none⟩ = some (.int .i64 s.y) := cell_blk g1 rfl
              have s3 : wc.cell? ⟨w.heap.size + 1, 2, none⟩ = some (.int .i64 s.z) := cell_blk g1 rfl
              have r1 : wc.cell? ⟨w.heap.size, 0, none⟩ = some (.int .i64 0) := cell_blk g2 rfl
              have r2 : wc.cell? ⟨w.heap.size, 1, none⟩ = some (.int .i64 0) := cell_blk g2 rfl
              have r3 : wc.cell? ⟨w.heap.size, 2, none⟩ = some (.int .i64 0) := cell_blk g2 rfl
              have y1 := frozen_blk (i := 0) g2
              have y2 := frozen_blk (i := 1) g2
              have y3 := frozen_blk (i := 2) g2
              gi_wp2
              exact line_out rfl ((((((Upd.refl g2).set (i := 0) (.int .i64 (s.w + pw))).set (i := 1) (.int .i64 s.y)).set (i := 2) (.int .i64 s.z))).is rfl) hK' (by omega) hB' (by rw [hls.out, hpw.out])
          · have hpw := hid (penW_no hTl hk)
            have hk2 : (l[T].kind == 3) = false := by simpa using hk
            generalize l[T].kind = kd at *
            gi_wp2
            exact line_out rfl ((((((Upd.refl h2).set (i := 0) (.int .i64 s.w)).set (i := 1) (.int .i64 s.y)).set (i := 2) (.int .i64 s.z))).is rfl) hK (by omega) hB (by rw [hls.out, hpw.out]; simp)
        · have hpw := hid (penW_end (l := l) (t := T) (by omega))
          first
          | (exfalso; omega)
          | (gi_wp2
             exact line_out rfl ((((((Upd.refl h2).set (i := 0) (.int .i64 s.w)).set (i := 1) (.int .i64 s.y)).set (i := 2) (.int .i64 s.z))).is rfl) hK (by omega) hB (by rw [hls.out, hpw.out]; simp))
      case stop =>
        rintro D c pre W _ _ h _
        exact h.elim
    · gi_wp2
      exact ⟨_, sum_result rfl (World.alloc_heap_new w _), by rw [(fin0 T hlt).out], B1 _⟩
  · by_cases hlt : f < l.length
    · gi_wp2_with (fail)
      refine ⟨trivial, rfl, (callsIn_wide.2 (HW.out _)).mono ?_⟩
      rintro e w' ⟨rfl, rfl⟩
      gi_wp2_with (fail)
      have bR := World.alloc_heap_new w (.cells #[.int .i64 0, .int .i64 0, .int .i64 0] 126)
      have bS := World.alloc_heap_new (w.alloc (.cells #[.int .i64 0, .int .i64 0, .int .i64 0] 126)) (.cells #[.int .i64 0, .int .i64 0, .int .i64 0] 126)
      rw [World.size_alloc] at bS
      have b2 := World.alloc_heap_new ((w.alloc (.cells #[.int .i64 0, .int .i64 0, .int .i64 0] 126)).alloc (.cells #[.int .i64 0, .int .i64 0, .int .i64 0] 126)) (.cells #[.slice p l.length cap] 40)
      have b3 := World.alloc_heap_new (((w.alloc (.cells #[.int .i64 0, .int .i64 0, .int .i64 0] 126)).alloc (.cells #[.int .i64 0, .int .i64 0, .int .i64 0] 126)).alloc (.cells #[.slice p l.length cap] 40)) (.cells #[.int .i64 n] 3)
      have b4 := World.alloc_heap_new ((((w.alloc (.cells #[.int .i64 0, .int .i64 0, .int .i64 0] 126)).alloc (.cells #[.int .i64 0, .int .i64 0, .int .i64 0] 126)).alloc (.cells #[.slice p l.length cap] 40)).alloc (.cells #[.int .i64 n] 3)) (.cells #[.int .i64 l.length] 3)
      simp only [World.size_alloc] at b2 b3 b4
      have hB5 := ((((B1 (.cells #[.int .i64 0, .int .i64 0, .int .i64 0] 126)).alloc (by simp) (.cells #[.int .i64 0, .int .i64 0, .int .i64 0] 126)).alloc (by simp; omega) (.cells #[.slice p l.length cap] 40)).alloc (by simp; omega) (.cells #[.int .i64 n] 3)).alloc (by simp; omega) (.cells #[.int .i64 l.length] 3)
      have hseq := within1_seq (w.heap.size + 2) (w.heap.size + 3) (w.heap.size + 4) (.slice p l.length cap) n l.length l hle hn hup
      refine range_box rfl (enters_of Tryz.func118 (by kernel_rfl) rfl) hseq (fun _ => rfl)
        (fun pre W => W.heap[w.heap.size + 1]? = some (.cells (sumC (smOf (pre.map Prod.fst))) 126 (0, 0)) ∧ W.heap[w.heap.size]? = some (.cells (sumC ⟨0, 0, 0⟩) 126 (0, 0)) ∧ w.heap.size + 5 ≤ W.heap.size ∧ Below w.heap.size w W)
        (fun _ _ _ => False)
        ?hI2 (fun _ _ _ _ _ h => h) (fun B => WiR.st B) (fun _ _ => St.pure _) (fun _ => St.pure _) (fun _ => St.pure _) ?hsz2 ?h02 ?hR02
        ?mk2 (fun x => (encIt x.1).toArray) 49 ?assign2 ?body2 ?done2 ?stop2
      case assign2 =>
        intro L x j W K hj hK
        dsimp only [wiEnc, encIt] at hK ⊢
        gi_wp2
        exact hK
      case hI2 => exact fun _ _ _ hk h => ⟨hk.same _ _ h.1 (.inl rfl), hk.same _ _ h.2.1 (.inl rfl), Nat.le_trans h.2.2.1 hk.size, hk.below (by simp; omega) (Nat.le_refl _) h.2.2.2⟩
      case hsz2 => exact fun _ _ h => by have := h.2.2.1; simp; omega
      case body2 =>
        rintro L pre x j W hl _ ⟨h1, h2, h3, hB⟩ hR hadm hj hx
        obtain ⟨k, hk1, hk2, hk3, rfl, rfl⟩ := hadm
        have hj1 : w.heap.size + 5 ≤ j := by simpa using hj
        rw [wiL_map] at h1
        have hok := Hok.out _ (List.getElem_mem hk2)
        have hsn := hid (show smOf ((wiL l (firstL l n) k ++ [(l[k], k)]).map Prod.fst) = (smOf (mid l (firstL l n) k)).step l[k] by rw [List.map_append, wiL_map]; exact smOf_snoc _ _)
        have hbd := smMid_bd l (firstL l n) k
        generalize smOf (mid l (firstL l n) k) = s at *
        dsimp only [encIt] at hx ⊢
        obtain ⟨ok1, ok2, ok3, ok4, ok5⟩ := hok
        generalize l[k] = x at *
        obtain ⟨⟨b1, b2⟩, ⟨b3, b4⟩, ⟨b5, b6⟩⟩ := hbd
        have q1 := plain_bd x.w
        have q2 := plain_bd x.y
        have q3 := plain_bd x.z
        have cw := fun w => Plain_any x.w w ok2
        have cy := fun w => Plain_any x.y w ok3
        have cz := fun w => Plain_any x.z w ok4
        have hst : s.step x = ⟨if x.kind = 3 then s.w else s.w + plain x.w, s.y + plain x.y, s.z + plain x.z⟩ := rfl
        rw [hst] at hsn
        clear hst
        generalize plain x.w = pw at *
        generalize plain x.y = py at *
        generalize plain x.z = pz at *
        have s1 : W.cell? ⟨w.heap.size + 1, 0, none⟩ = some (.int .i64 s.w) := cell_blk h1 rfl
        have s2 : W.cell? ⟨w.heap.size + 1, 1, none⟩ = some (.int .i64 s.y) := cell_blk h1 rfl
        have s3 : W.cell? ⟨w.heap.size + 1, 2, none⟩ = some (.int .i64 s.z) := cell_blk h1 rfl
        have z1 := frozen_blk (i := 0) h1
        have z2 := frozen_blk (i := 1) h1
        have z3 := frozen_blk (i := 2) h1
        have x1 := cell_blk (i := 0) hx rfl
        have x2 := cell_blk (i := 1) hx rfl
        have x3 := cell_blk (i := 2) hx rfl
        have x4 := cell_blk (i := 3) hx rfl
        replace cw := hid cw
        replace cy := hid cy
        replace cz := hid cz
        have hne : (w.heap.size + 1 == j) = false := by simp; omega
        obtain ⟨d, hd⟩ : ∃ d, (x.kind != 3) = d := ⟨_, rfl⟩
        have hd2 : (x.kind == 3) = !d := by rw [← hd]; cases h : (x.kind == 3) <;> simp [bne, h]
        have hsw : (if x.kind = 3 then s.w else s.w + pw) = if d then s.w + pw else s.w := by
          rw [← hd]; by_cases h : x.kind = 3 <;> simp [h]
        rw [hsw] at hsn
        clear hsw
        generalize x.kind = kd at *
        have fin : ∀ W', Upd (w.heap.size + 1) (sumC ⟨if d then s.w + pw else s.w, s.y + py, s.z + pz⟩) 126 W W' →
            KeepsFrom (((((w.alloc (.cells #[.int .i64 0, .int .i64 0, .int .i64 0] 126)).alloc (.cells #[.int .i64 0, .int .i64 0, .int .i64 0] 126)).alloc (.cells #[.slice p l.length cap] 40)).alloc (.cells #[.int .i64 n] 3)).alloc (.cells #[.int .i64 l.length] 3)).heap.size W W' ∧
            WiR (w.heap.size + 2) (w.heap.size + 3) (w.heap.size + 4) (.slice p l.length cap) n l.length l W' ∧
            (W'.heap[w.heap.size + 1]? = some (.cells (sumC (smOf ((wiL l (firstL l n) k ++ [(x, k)]).map Prod.fst))) 126 (0, 0)) ∧ W'.heap[w.heap.size]? = some (.cells (sumC ⟨0, 0, 0⟩) 126 (0, 0)) ∧ w.heap.size + 5 ≤ W'.heap.size ∧ Below w.heap.size w W') := by
          intro W' hU
          have hB' := hU.below hB (by omega)
          obtain ⟨r1, r2, r3, -⟩ := hR
          refine ⟨hU.from h1 _, ⟨?_, ?_, ?_, (Kept.of_below hB' 0).sl Hl.out⟩, ?_, ?_, ?_, hB'⟩
          · rw [hU.cell (by simp)]; exact r1
          · rw [hU.cell (by simp)]; exact r2
          · rw [hU.cell (by simp)]; exact r3
          · rw [hsn.out]; exact hU.here
          · rw [hU.off _ (by omega)]; exact h2
          · rw [hU.size]; exact h3
        replace fin := hid fin
        gi_upto_if 29 with (fail)
        gi_cut [] from 30 (fun wx => Upd (w.heap.size + 1) (sumC ⟨if d then s.w + pw else s.w, s.y, s.z⟩) 126 W wx)
        case first =>
          rename_i J K2 hJ hK2
          cases d
          · gi_wp2
            first | refine hK2 _ _ (Met.intro (hJ _ _ ?_)) | refine Met.intro (hJ _ _ ?_) | refine hJ _ _ ?_
            (repeat apply Exists.intro)
            refine ⟨?_, rfl⟩
            exact (Upd.refl h1).is rfl
          · gi_wp2
            have r1 : IntKind.i64.wrap (s.w + pw) = s.w + pw := IntWalk.i64_in _ (by omega)
            gi_region_with (refine ⟨trivial, rfl, (CallsIn.inRound L (callsIn_wide.2 (cw.out _))).mono ?_⟩; rintro e w' ⟨rfl, rfl⟩)
            all_goals
              first | refine hK2 _ _ (Met.intro (hJ _ _ ?_)) | refine Met.intro (hJ _ _ ?_) | refine hJ _ _ ?_
              (repeat apply Exists.intro)
              refine ⟨?_, rfl⟩
              exact (((Upd.refl h1).set (i := 0) (.int .i64 (s.w + pw))).drew).is rfl
        case rest =>
          have hc1 := hcut
          have g1 := hcut.here
          have x4' : wc.cell? ⟨j, 3, none⟩ = some (.int .i64 x.z) := by rw [hcut.cell (by simp; omega)]; exact x4
          have s2 : wc.cell? ⟨w.heap.size + 1, 1, none⟩ = some (.int .i64 s.y) := cell_blk g1 rfl
          have z2 : wc.frozen? ⟨w.heap.size + 1, 1, none⟩ = false := frozen_blk g1
          have x3 : wc.cell? ⟨j, 2, none⟩ = some (.int .i64 x.y) := by rw [hcut.cell (by simp; omega)]; exact x3
          gi_wp2
          gi_cut [] from 37 (fun wx => Upd (w.heap.size + 1) (sumC ⟨if d then s.w + pw else s.w, s.y + py, s.z⟩) 126 wc wx)
          case first =>
            rename_i J K2 hJ hK2
            have r1 : IntKind.i64.wrap (s.y + py) = s.y + py := IntWalk.i64_in _ (by omega)
            gi_region_with (refine ⟨trivial, rfl, (CallsIn.inRound L (callsIn_wide.2 (cy.out _))).mono ?_⟩; rintro e w' ⟨rfl, rfl⟩)
            all_goals
              first | refine hK2 _ _ (Met.intro (hJ _ _ ?_)) | refine Met.intro (hJ _ _ ?_) | refine hJ _ _ ?_
              (repeat apply Exists.intro)
              refine ⟨?_, rfl⟩
              exact (((Upd.refl g1).set (i := 1) (.int .i64 (s.y + py))).drew).is rfl
          case rest =>
            have hc2 := hc1.trans hcut
            have g2 := hcut.here
            have s3 : wc.cell? ⟨w.heap.size + 1, 2, none⟩ = some (.int .i64 s.z) := cell_blk g2 rfl
            have z3 : wc.frozen? ⟨w.heap.size + 1, 2, none⟩ = false := frozen_blk g2
            have x4 : wc.cell? ⟨j, 3, none⟩ = some (.int .i64 x.z) := by rw [hcut.cell (by simp; omega)]; exact x4'
            gi_wp2
            have r1 : IntKind.i64.wrap (s.z + pz) = s.z + pz := IntWalk.i64_in _ (by omega)
            gi_region_with (refine ⟨trivial, rfl, (CallsIn.inRound L (callsIn_wide.2 (cz.out _))).mono ?_⟩; rintro e w' ⟨rfl, rfl⟩)
            all_goals
              clear r1
              gi_wp2
              exact fin.out _ (hc2.trans ((((Upd.refl g2).set (i := 2) (.int .i64 (s.z + pz))).drew).is rfl))
      case h02 => exact ⟨((Kept.alloc 0 _ _).trans ((Kept.alloc 0 _ _).trans (Kept.alloc 0 _ _))).same _ _ bS (.inl rfl), (((Kept.alloc 0 _ _).trans ((Kept.alloc 0 _ _).trans ((Kept.alloc 0 _ _).trans (Kept.alloc 0 _ _)))).same _ _ bR (.inl rfl)), by simp, hB5⟩
      case hR02 =>
        refine ⟨cell_blk (((Kept.alloc 0 _ _).trans (Kept.alloc 0 _ _)).same _ _ b2 (.inl rfl)) rfl, cell_blk ((Kept.alloc 0 _ _).same _ _ b3 (.inl rfl)) rfl, cell_blk b4 rfl, (Kept.of_below hB5 0).sl Hl.out⟩
      case done2 =>
        rintro D xs W hD rfl ⟨h1, h2, h3, hB⟩ hR hK
        rw [wiL_map] at h1
        have hls := hid (show lineSm l f l.length = ⟨(smOf (mid l f l.length)).w + penW l l.length, (smOf (mid l f l.length)).y, (smOf (mid l f l.length)).z⟩ from if_pos hlt)
        rw [hf] at h1
        have hbd := smMid_bd l f l.length
        have hD1 : w.heap.size + 5 ≤ D := by simpa using hD
        generalize smOf (mid l f l.length) = s at *
        obtain ⟨⟨b1, b2⟩, ⟨b3, b4⟩, ⟨b5, b6⟩⟩ := hbd
        obtain ⟨-, -, -, hsl⟩ := hR
        have s1 : W.cell? ⟨w.heap.size + 1, 0, none⟩ = some (.int .i64 s.w) := cell_blk h1 rfl
        have s2 : W.cell? ⟨w.heap.size + 1, 1, none⟩ = some (.int .i64 s.y) := cell_blk h1 rfl
        have s3 : W.cell? ⟨w.heap.size + 1, 2, none⟩ = some (.int .i64 s.z) := cell_blk h1 rfl
        have z1 := frozen_blk (i := 0) h1
        have r1 : W.cell? ⟨w.heap.size, 0, none⟩ = some (.int .i64 0) := cell_blk h2 rfl
        have r2 : W.cell? ⟨w.heap.size, 1, none⟩ = some (.int .i64 0) := cell_blk h2 rfl
        have r3 : W.cell? ⟨w.heap.size, 2, none⟩ = some (.int .i64 0) := cell_blk h2 rfl
        have y1 := frozen_blk (i := 0) h2
        have y2 := frozen_blk (i := 1) h2
        have y3 := frozen_blk (i := 2) h2
        by_cases hTl : l.length < l.length
        · exfalso; omega
        · have hpw := hid (penW_end (l := l) (t := l.length) (by omega))
          first
          | (exfalso; omega)
          | (gi_wp2
             exact line_out rfl ((((((Upd.refl h2).set (i := 0) (.int .i64 s.w)).set (i := 1) (.int .i64 s.y)).set (i := 2) (.int .i64 s.z))).is rfl) hK (by omega) hB (by rw [hls.out, hpw.out]; simp))
      case stop2 =>
        rintro D c pre W _ _ h _
        exact h.elim
    · gi_wp2
      exact ⟨_, sum_result rfl (World.alloc_heap_new w _), by rw [(fin0 l.length hlt).out], B1 _⟩
  · by_cases hlt : f < l.length
    · gi_wp2_with (fail)
      refine ⟨trivial, rfl, (callsIn_wide.2 (HW.out _)).mono ?_⟩
      rintro e w' ⟨rfl, rfl⟩
      gi_wp2_with (fail)
      have bR := World.alloc_heap_new w (.cells #[.int .i64 0, .int .i64 0, .int .i64 0] 126)
      have bS := World.alloc_heap_new (w.alloc (.cells #[.int .i64 0, .int .i64 0, .int .i64 0] 126)) (.cells #[.int .i64 0, .int .i64 0, .int .i64 0] 126)
      rw [World.size_alloc] at bS
      have b2 := World.alloc_heap_new ((w.alloc (.cells #[.int .i64 0, .int .i64 0, .int .i64 0] 126)).alloc (.cells #[.int .i64 0, .int .i64 0, .int .i64 0] 126)) (.cells #[.slice p l.length cap] 40)
      have b3 := World.alloc_heap_new (((w.alloc (.cells #[.int .i64 0, .int .i64 0, .int .i64 0] 126)).alloc (.cells #[.int .i64 0, .int .i64 0, .int .i64 0] 126)).alloc (.cells #[.slice p l.length cap] 40)) (.cells #[.int .i64 n] 3)
      have b4 := World.alloc_heap_new ((((w.alloc (.cells #[.int .i64 0, .int .i64 0, .int .i64 0] 126)).alloc (.cells #[.int .i64 0, .int .i64 0, .int .i64 0] 126)).alloc (.cells #[.slice p l.length cap] 40)).alloc (.cells #[.int .i64 n] 3)) (.cells #[.int .i64 l.length] 3)
      simp only [World.size_alloc] at b2 b3 b4
      have hB5 := ((((B1 (.cells #[.int .i64 0, .int .i64 0, .int .i64 0] 126)).alloc (by simp) (.cells #[.int .i64 0, .int .i64 0, .int .i64 0] 126)).alloc (by simp; omega) (.cells #[.slice p l.length cap] 40)).alloc (by simp; omega) (.cells #[.int .i64 n] 3)).alloc (by simp; omega) (.cells #[.int .i64 l.length] 3)
      have hseq := within1_seq (w.heap.size + 2) (w.heap.size + 3) (w.heap.size + 4) (.slice p l.length cap) n l.length l hle hn hup
      refine range_box rfl (enters_of Tryz.func118 (by kernel_rfl) rfl) hseq (fun _ => rfl)
        (fun pre W => W.heap[w.heap.size + 1]? = some (.cells (sumC (smOf (pre.map Prod.fst))) 126 (0, 0)) ∧ W.heap[w.heap.size]? = some (.cells (sumC ⟨0, 0, 0⟩) 126 (0, 0)) ∧ w.heap.size + 5 ≤ W.heap.size ∧ Below w.heap.size w W)
        (fun _ _ _ => False)
        ?hI3 (fun _ _ _ _ _ h => h) (fun B => WiR.st B) (fun _ _ => St.pure _) (fun _ => St.pure _) (fun _ => St.pure _) ?hsz3 ?h03 ?hR03
        ?mk3 (fun x => (encIt x.1).toArray) 49 ?assign3 ?body3 ?done3 ?stop3
      case assign3 =>
        intro L x j W K hj hK
        dsimp only [wiEnc, encIt] at hK ⊢
        gi_wp2
        exact hK
      case hI3 => exact fun _ _ _ hk h => ⟨hk.same _ _ h.1 (.inl rfl), hk.same _ _ h.2.1 (.inl rfl), Nat.le_trans h.2.2.1 hk.size, hk.below (by simp; omega) (Nat.le_refl _) h.2.2.2⟩
      case hsz3 => exact fun _ _ h => by have := h.2.2.1; simp; omega
      case body3 =>
        rintro L pre x j W hl _ ⟨h1, h2, h3, hB⟩ hR hadm hj hx
        obtain ⟨k, hk1, hk2, hk3, rfl, rfl⟩ := hadm
        have hj1 : w.heap.size + 5 ≤ j := by simpa using hj
        rw [wiL_map] at h1
        have hok := Hok.out _ (List.getElem_mem hk2)
        have hsn := hid (show smOf ((wiL l (firstL l n) k ++ [(l[k], k)]).map Prod.fst) = (smOf (mid l (firstL l n) k)).step l[k] by rw [List.map_append, wiL_map]; exact smOf_snoc _ _)
        have hbd := smMid_bd l (firstL l n) k
        generalize smOf (mid l (firstL l n) k) = s at *
        dsimp only [encIt] at hx ⊢
        obtain ⟨ok1, ok2, ok3, ok4, ok5⟩ := hok
        generalize l[k] = x at *
        obtain ⟨⟨b1, b2⟩, ⟨b3, b4⟩, ⟨b5, b6⟩⟩ := hbd
        have q1 := plain_bd x.w
        have q2 := plain_bd x.y
        have q3 := plain_bd x.z
        have cw := fun w => Plain_any x.w w ok2
        have cy := fun w => Plain_any x.y w ok3
        have cz := fun w => Plain_any x.z w ok4
        have hst : s.step x = ⟨if x.kind = 3 then s.w else s.w + plain x.w, s.y + plain x.y, s.z + plain x.z⟩ := rfl
        rw [hst] at hsn
        clear hst
        generalize plain x.w = pw at *
        generalize plain x.y = py at *
        generalize plain x.z = pz at *
        have s1 : W.cell? ⟨w.heap.size + 1, 0, none⟩ = some (.int .i64 s.w) := cell_blk h1 rfl
        have s2 : W.cell? ⟨w.heap.size + 1, 1, none⟩ = some (.int .i64 s.y) := cell_blk h1 rfl
        have s3 : W.cell? ⟨w.heap.size + 1, 2, none⟩ = some (.int .i64 s.z) := cell_blk h1 rfl
        have z1 := frozen_blk (i := 0) h1
        have z2 := frozen_blk (i := 1) h1
        have z3 := frozen_blk (i := 2) h1
        have x1 := cell_blk (i := 0) hx rfl
        have x2 := cell_blk (i := 1) hx rfl
        have x3 := cell_blk (i := 2) hx rfl
        have x4 := cell_blk (i := 3) hx rfl
        replace cw := hid cw
        replace cy := hid cy
        replace cz := hid cz
        have hne : (w.heap.size + 1 == j) = false := by simp; omega
        obtain ⟨d, hd⟩ : ∃ d, (x.kind != 3) = d := ⟨_, rfl⟩
        have hd2 : (x.kind == 3) = !d := by rw [← hd]; cases h : (x.kind == 3) <;> simp [bne, h]
        have hsw : (if x.kind = 3 then s.w else s.w + pw) = if d then s.w + pw else s.w := by
          rw [← hd]; by_cases h : x.kind = 3 <;> simp [h]
        rw [hsw] at hsn
        clear hsw
        generalize x.kind = kd at *
        have fin : ∀ W', Upd (w.heap.size + 1) (sumC ⟨if d then s.w + pw else s.w, s.y + py, s.z + pz⟩) 126 W W' →
            KeepsFrom (((((w.alloc (.cells #[.int .i64 0, .int .i64 0, .int .i64 0] 126)).alloc (.cells #[.int .i64 0, .int .i64 0, .int .i64 0] 126)).alloc (.cells #[.slice p l.length cap] 40)).alloc (.cells #[.int .i64 n] 3)).alloc (.cells #[.int .i64 l.length] 3)).heap.size W W' ∧
            WiR (w.heap.size + 2) (w.heap.size + 3) (w.heap.size + 4) (.slice p l.length cap) n l.length l W' ∧
            (W'.heap[w.heap.size + 1]? = some (.cells (sumC (smOf ((wiL l (firstL l n) k ++ [(x, k)]).map Prod.fst))) 126 (0, 0)) ∧ W'.heap[w.heap.size]? = some (.cells (sumC ⟨0, 0, 0⟩) 126 (0, 0)) ∧ w.heap.size + 5 ≤ W'.heap.size ∧ Below w.heap.size w W') := by
          intro W' hU
          have hB' := hU.below hB (by omega)
          obtain ⟨r1, r2, r3, -⟩ := hR
          refine ⟨hU.from h1 _, ⟨?_, ?_, ?_, (Kept.of_below hB' 0).sl Hl.out⟩, ?_, ?_, ?_, hB'⟩
          · rw [hU.cell (by simp)]; exact r1
          · rw [hU.cell (by simp)]; exact r2
          · rw [hU.cell (by simp)]; exact r3
          · rw [hsn.out]; exact hU.here
          · rw [hU.off _ (by omega)]; exact h2
          · rw [hU.size]; exact h3
        replace fin := hid fin
        gi_upto_if 29 with (fail)
        gi_cut [] from 30 (fun wx => Upd (w.heap.size + 1) (sumC ⟨if d then s.w + pw else s.w, s.y, s.z⟩) 126 W wx)
        case first =>
          rename_i J K2 hJ hK2
          cases d
          · gi_wp2
            first | refine hK2 _ _ (Met.intro (hJ _ _ ?_)) | refine Met.intro (hJ _ _ ?_) | refine hJ _ _ ?_
            (repeat apply Exists.intro)
            refine ⟨?_, rfl⟩
            exact (Upd.refl h1).is rfl
          · gi_wp2
            have r1 : IntKind.i64.wrap (s.w + pw) = s.w + pw := IntWalk.i64_in _ (by omega)
            gi_region_with (refine ⟨trivial, rfl, (CallsIn.inRound L (callsIn_wide.2 (cw.out _))).mono ?_⟩; rintro e w' ⟨rfl, rfl⟩)
            all_goals
              first | refine hK2 _ _ (Met.intro (hJ _ _ ?_)) | refine Met.intro (hJ _ _ ?_) | refine hJ _ _ ?_
              (repeat apply Exists.intro)
              refine ⟨?_, rfl⟩
              exact (((Upd.refl h1).set (i := 0) (.int .i64 (s.w + pw))).drew).is rfl
        case rest =>
          have hc1 := hcut
          have g1 := hcut.here
          have x4' : wc.cell? ⟨j, 3, none⟩ = some (.int .i64 x.z) := by rw [hcut.cell (by simp; omega)]; exact x4
          have s2 : wc.cell? ⟨w.heap.size + 1, 1, none⟩ = some (.int .i64 s.y) := cell_blk g1 rfl
          have z2 : wc.frozen? ⟨w.heap.size + 1, 1, none⟩ = false := frozen_blk g1
          have x3 : wc.cell? ⟨j, 2, none⟩ = some (.int .i64 x.y) := by rw [hcut.cell (by simp; omega)]; exact x3
          gi_wp2
          gi_cut [] from 37 (fun wx => Upd (w.heap.size + 1) (sumC ⟨if d then s.w + pw else s.w, s.y + py, s.z⟩) 126 wc wx)
          case first =>
            rename_i J K2 hJ hK2
            have r1 : IntKind.i64.wrap (s.y + py) = s.y + py := IntWalk.i64_in _ (by omega)
            gi_region_with (refine ⟨trivial, rfl, (CallsIn.inRound L (callsIn_wide.2 (cy.out _))).mono ?_⟩; rintro e w' ⟨rfl, rfl⟩)
            all_goals
              first | refine hK2 _ _ (Met.intro (hJ _ _ ?_)) | refine Met.intro (hJ _ _ ?_) | refine hJ _ _ ?_
              (repeat apply Exists.intro)
              refine ⟨?_, rfl⟩
              exact (((Upd.refl g1).set (i := 1) (.int .i64 (s.y + py))).drew).is rfl
          case rest =>
            have hc2 := hc1.trans hcut
            have g2 := hcut.here
            have s3 : wc.cell? ⟨w.heap.size + 1, 2, none⟩ = some (.int .i64 s.z) := cell_blk g2 rfl
            have z3 : wc.frozen? ⟨w.heap.size + 1, 2, none⟩ = false := frozen_blk g2
            have x4 : wc.cell? ⟨j, 3, none⟩ = some (.int .i64 x.z) := by rw [hcut.cell (by simp; omega)]; exact x4'
            gi_wp2
            have r1 : IntKind.i64.wrap (s.z + pz) = s.z + pz := IntWalk.i64_in _ (by omega)
            gi_region_with (refine ⟨trivial, rfl, (CallsIn.inRound L (callsIn_wide.2 (cz.out _))).mono ?_⟩; rintro e w' ⟨rfl, rfl⟩)
            all_goals
              clear r1
              gi_wp2
              exact fin.out _ (hc2.trans ((((Upd.refl g2).set (i := 2) (.int .i64 (s.z + pz))).drew).is rfl))
      case h03 => exact ⟨((Kept.alloc 0 _ _).trans ((Kept.alloc 0 _ _).trans (Kept.alloc 0 _ _))).same _ _ bS (.inl rfl), (((Kept.alloc 0 _ _).trans ((Kept.alloc 0 _ _).trans ((Kept.alloc 0 _ _).trans (Kept.alloc 0 _ _)))).same _ _ bR (.inl rfl)), by simp, hB5⟩
      case hR03 =>
        refine ⟨cell_blk (((Kept.alloc 0 _ _).trans (Kept.alloc 0 _ _)).same _ _ b2 (.inl rfl)) rfl, cell_blk ((Kept.alloc 0 _ _).same _ _ b3 (.inl rfl)) rfl, cell_blk b4 rfl, (Kept.of_below hB5 0).sl Hl.out⟩
      case done3 =>
        rintro D xs W hD rfl ⟨h1, h2, h3, hB⟩ hR hK
        rw [wiL_map] at h1
        have hls := hid (show lineSm l f l.length = ⟨(smOf (mid l f l.length)).w + penW l l.length, (smOf (mid l f l.length)).y, (smOf (mid l f l.length)).z⟩ from if_pos hlt)
        rw [hf] at h1
        have hbd := smMid_bd l f l.length
        have hD1 : w.heap.size + 5 ≤ D := by simpa using hD
        generalize smOf (mid l f l.length) = s at *
        obtain ⟨⟨b1, b2⟩, ⟨b3, b4⟩, ⟨b5, b6⟩⟩ := hbd
        obtain ⟨-, -, -, hsl⟩ := hR
        have s1 : W.cell? ⟨w.heap.size + 1, 0, none⟩ = some (.int .i64 s.w) := cell_blk h1 rfl
        have s2 : W.cell? ⟨w.heap.size + 1, 1, none⟩ = some (.int .i64 s.y) := cell_blk h1 rfl
        have s3 : W.cell? ⟨w.heap.size + 1, 2, none⟩ = some (.int .i64 s.z) := cell_blk h1 rfl
        have z1 := frozen_blk (i := 0) h1
        have r1 : W.cell? ⟨w.heap.size, 0, none⟩ = some (.int .i64 0) := cell_blk h2 rfl
        have r2 : W.cell? ⟨w.heap.size, 1, none⟩ = some (.int .i64 0) := cell_blk h2 rfl
        have r3 : W.cell? ⟨w.heap.size, 2, none⟩ = some (.int .i64 0) := cell_blk h2 rfl
        have y1 := frozen_blk (i := 0) h2
        have y2 := frozen_blk (i := 1) h2
        have y3 := frozen_blk (i := 2) h2
        by_cases hTl : l.length < l.length
        · exfalso; omega
        · have hpw := hid (penW_end (l := l) (t := l.length) (by omega))
          first
          | (exfalso; omega)
          | (gi_wp2
             exact line_out rfl ((((((Upd.refl h2).set (i := 0) (.int .i64 s.w)).set (i := 1) (.int .i64 s.y)).set (i := 2) (.int .i64 s.z))).is rfl) hK (by omega) hB (by rw [hls.out, hpw.out]; simp))
      case stop3 =>
        rintro D c pre W _ _ h _
        exact h.elim
    · gi_wp2
      exact ⟨_, sum_result rfl (World.alloc_heap_new w _), by rw [(fin0 l.length hlt).out], B1 _⟩
end Go.Proofs.YtempicociampoaaGreatDoor
