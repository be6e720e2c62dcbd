/- The walk of index.Pack (printed by gen_iyl.py). -/
import Derived.Test.YtomgjapjeckokaaIyK
namespace Go.Proofs.Ytomgjapjeckokaa
open Go.RowKit Go.Shelf Go.Lib
attribute [local go_sem] Oper.semAt_some

theorem results_two {P : Program} {fn : Func} {p q : Tmp} {t1 t2 : TypeId} (h : fn.results = #[.cell p t1, .cell q t2]) (tmps : Array Value) (w : World) (g1 g2 : Nat) (v1 v2 : Value) (d1 d2 : TypeDesc)
    (hp : tmps.getD p undef = .pointer (some ⟨g1, 0, none⟩)) (hq : tmps.getD q undef = .pointer (some ⟨g2, 0, none⟩)) (h1 : w.cell? ⟨g1, 0, none⟩ = some v1) (h2 : w.cell? ⟨g2, 0, none⟩ = some v2)
    (hu1 : P.underlying t1 = some d1) (hu2 : P.underlying t2 = some d2) (k1 : d1.isRow = false) (k2 : d2.isRow = false) : (results fn tmps).run P w = .ok (.tuple #[v1, v2]) w := by
  have hp' : tmps[p]?.getD undef = .pointer (some ⟨g1, 0, none⟩) := by simpa using hp
  have hq' : tmps[q]?.getD undef = .pointer (some ⟨g2, 0, none⟩) := by simpa using hq
  have e1 : (loadVar t1 ⟨g1, 0, none⟩).run P w = .ok v1 w := by
    cases d1 <;> first | (cases k1; done) | simp [loadVar, isAgg, run_underlying hu1, go_sem, h1]
  have e2 : (loadVar t2 ⟨g2, 0, none⟩).run P w = .ok v2 w := by
    cases d2 <;> first | (cases k2; done) | simp [loadVar, isAgg, run_underlying hu2, go_sem, h2]
  simp [results, h, hp', hq', asAddr, e1, e2]
theorem rowless {t : TypeId} (hk : (Try.prog.underlying t).map TypeDesc.isRow = some false) : ∃ d, Try.prog.underlying t = some d ∧ d.isRow = false := by
  obtain ⟨d, h1, h2⟩ := Option.map_eq_some_iff.1 hk
  exact ⟨d, h1, h2⟩
/-- at a return: the two results lie in their boxes, one mark is open -/
theorem outPack {D n₀ : Nat} {W : World} {tmps : Array Value} {R : Ending → World → Prop} {v : Value} {n : Int} (hK : W.heap[D]? = some (.deferred (some [])))
    (h2 : W.heap[n₀]? = some (.cells #[v] 24 (0, 0))) (h3 : W.heap[n₀ + 1]? = some (.cells #[.int .i64 n] 26 (0, 0)))
    (e2 : tmps.getD 4 undef = .pointer (some ⟨n₀, 0, none⟩)) (e3 : tmps.getD 5 undef = .pointer (some ⟨n₀ + 1, 0, none⟩))
    (hR : R (.returned (.tuple #[v, .int .i64 n])) (W.putObj D (.deferred none))) : bodyPostM Fence.wide 0 Try.prog Try.f10 R .ret { tmps := tmps, defers := [{ target := .collected D, args := #[] }] } W := by
  obtain ⟨d1, hu1, k1⟩ := rowless (t := 24) (by kernel_rfl)
  obtain ⟨d2, hu2, k2⟩ := rowless (t := 26) (by kernel_rfl)
  refine leave1 hK (fun W' hk => results_two (fn := Try.f10) rfl _ W' n₀ (n₀ + 1) v (.int .i64 n) d1 d2 e2 e3 (cell_blk (i := 0) (hk.same _ _ h2 (.inl rfl)) rfl) (cell_blk (i := 0) (hk.same _ _ h3 (.inl rfl)) rfl) hu1 hu2 k1 k2) hR
/-- the same, no mark open -/
theorem outPack0 {n₀ : Nat} {W : World} {tmps : Array Value} {R : Ending → World → Prop} {v : Value} {n : Int}
    (h2 : W.heap[n₀]? = some (.cells #[v] 24 (0, 0))) (h3 : W.heap[n₀ + 1]? = some (.cells #[.int .i64 n] 26 (0, 0)))
    (e2 : tmps.getD 4 undef = .pointer (some ⟨n₀, 0, none⟩)) (e3 : tmps.getD 5 undef = .pointer (some ⟨n₀ + 1, 0, none⟩))
    (hR : R (.returned (.tuple #[v, .int .i64 n])) W) : bodyPostM Fence.wide 0 Try.prog Try.f10 R .ret { tmps := tmps, defers := [] } W := by
  obtain ⟨d1, hu1, k1⟩ := rowless (t := 24) (by kernel_rfl)
  obtain ⟨d2, hu2, k2⟩ := rowless (t := 26) (by kernel_rfl)
  have hr := results_two (P := Try.prog) (fn := Try.f10) rfl tmps W n₀ (n₀ + 1) v (.int .i64 n) d1 d2 e2 e3 (cell_blk (i := 0) h2 rfl) (cell_blk (i := 0) h3 rfl) hu1 hu2 k1 k2
  exact ⟨_, hr, hR⟩
theorem below_set {w W : World} {n₀ b i : Nat} {x : Value} (h : Below n₀ w W) (hb : n₀ ≤ b) : Below n₀ w (W.setCell ⟨b, i, none⟩ x) :=
  ⟨h.os, h.tape, h.output, by simp [World.setCell]; exact h.size, fun k hk => (setCell_off (by omega)).trans (h.block k hk)⟩
theorem infoB_parts : ∃ i0 z, Try.prog.info? 43 = some i0 ∧ i0.zero = some z ∧ i0.size = 128 ∧ i0.bytes = 128 ∧ z.cells.size = 128 := by
  have h : (Try.prog.info? 43).map (fun i => (i.size, i.bytes, i.zero.map (·.cells.size))) = some (128, 128, some 128) := by kernel_rfl
  obtain ⟨i0, h1, h2⟩ := Option.map_eq_some_iff.1 h
  simp only [Prod.mk.injEq] at h2
  obtain ⟨z, h3, h4⟩ := Option.map_eq_some_iff.1 h2.2.2
  exact ⟨i0, z, h1, h3, h2.1, h2.2.1, h4⟩
theorem sl_chunk {w : World} {b o L cap x m : Nat} {l : List Ent} (hs : Sl w 35 encE (.slice (some ⟨b, o, none⟩) L cap) l) (hx : 3 * x < L) (hm : m = (chunkAt l x).length) : Sl w 35 encE (.slice (some ⟨b, o + x * 3 * 35, none⟩) m m) (chunkAt l x) := by
  subst hm
  rcases hs with ⟨h, -⟩ | ⟨a, c, h, h1, h2, h3, h4⟩
  · cases h
  · simp only [Value.slice.injEq, Option.some.injEq] at h
    obtain ⟨rfl, rfl, rfl⟩ := h
    refine Sl.mk (Nat.le_refl _) (by have := chunk_len hx; unfold maxLen; omega) fun i y hy => ?_
    rw [chunk_get] at hy
    split at hy
    · have := h4 _ _ hy
      dsimp only at this
      rwa [show o + (3 * x + i) * 35 = o + x * 3 * 35 + i * 35 by omega] at this
    · cases hy

/-- what Pack answers, as it lies in memory -/
def AnsP (w' : World) (base : Nat) (r : List (List UInt8) × Int) (v : Value) (er : Int) : Prop := w'.ownsRow base 43 128 v r.1.length (r.1.flatMap keyV) ∧ er = r.2
theorem AnsP.none (w : World) (base : Nat) {r : List (List UInt8) × Int} {n : Int} (h : r = ([], n)) : AnsP w base r (.slice none 0 0) n := by subst h; exact ⟨World.ownsRow_nil _ _ _ _, rfl⟩

theorem sealB_len2 {l : List UInt8} (h : l.length ≤ 124) : (sealB l).length = 128 := sealB_len h
theorem keeps_own {nx base n : Nat} {V VL w7 : World} {e : TypeId} {size : Nat} {u x : Value} {xs : List Value} {cs : Array Value} {t : TypeId} {fr : Nat × Nat} (hb : Below V.heap.size V VL) (h : VL.ownsRow base e size u n xs) (hg : VL.grownBy w7 u.ownBlock) (hx : VL.heap[nx]? = some (.cells cs t fr)) (k : Nat) (o : Obj) (hk : V.heap[k]? = some o) (ho : o.isCells = false) : (w7.setCell ⟨nx, 0, none⟩ x).heap[k]? = some o := by
  have hlt := (Array.getElem?_eq_some_iff.1 hk).1
  have h1 : VL.heap[k]? = some o := (hb.block k hlt).trans hk
  have hne : k ≠ nx := fun e9 => by rw [e9, hx] at h1; cases h1; cases ho
  refine (setCell_off hne).trans ((hg.block k (Array.getElem?_eq_some_iff.1 h1).1 fun e9 => ?_).trans h1)
  rcases h.2 with ⟨rfl, _⟩ | ⟨g, cap, cur, rfl, _, hh, _⟩
  · simp [Value.ownBlock] at e9
  · simp [Value.ownBlock] at e9
    subst e9
    rw [hh] at h1; cases h1; cases ho
theorem sl_one128 {W : World} {N : Nat} {OB : List UInt8} {t : TypeId} {fr : Nat × Nat} (h : W.heap[N]? = some (.cells (rowU OB) t fr)) : Sl W 128 keyV (.slice (some ⟨N, 0, none⟩) 1 1) [OB] := by
  refine Sl.mk (l := [OB]) (by simp) (by decide) fun i y hy => ?_
  match i, hy with
  | 0, hy =>
    obtain rfl := Option.some.inj hy
    rw [Nat.zero_mul, Nat.add_zero]
    exact range_blk (cs := keyV _) h
theorem keyV_enc {OB : List UInt8} (h : OB.length = 128) : ∀ x ∈ [OB], (keyV x).length = 128 ∧ ∀ u ∈ keyV x, u.oneCell' = true := fun x hx => by
  obtain rfl := List.mem_singleton.1 hx
  exact ⟨by rw [keyV_len, h], fun u hu => one_keyV hu⟩

set_option maxRecDepth 100000 in
set_option maxHeartbeats 4000000 in
theorem Pack_any (l : List Ent) (places : List Int) (v pv : Value) (w : World) (hs : Sl w 35 encE v l) (hp : Sl w 1 encI pv places) (hk : ∀ e ∈ l, intOkE e) (hl : l.length ≤ 1000000) (hpl : places.length ≤ 1000000) :
    Calls Try.prog 10 #[v, pv] w fun e w' => ∃ v' er, e = .returned (.tuple #[v', .int .i64 er]) ∧ Below w.heap.size w w' ∧ AnsP w' w.heap.size (packS l places) v' er := by
  obtain ⟨i0, z, hi0, hz0, hz1, hz2, hz3⟩ := infoB_parts
  have hkk : ∀ e ∈ l, e.key.length = 32 := fun e he => (hk e he).1
  obtain ⟨n₀, hn₀⟩ : ∃ n, w.heap.size = n := ⟨_, rfl⟩
  have B1 : Below n₀ w ((w.alloc (.cells #[.slice none 0 0] 24)).alloc (.cells #[.int .i64 0] 26)) := by rw [← hn₀]; exact ((Below.refl _ w).alloc (Nat.le_refl _) _).alloc (by simp) _
  have h0 := (Kept.alloc 0 (w.alloc (.cells #[.slice none 0 0] 24)) (.cells #[.int .i64 0] 26)).same _ _ (World.alloc_heap_new w (.cells #[.slice none 0 0] 24)) (.inl rfl)
  have h1 := World.alloc_heap_new (w.alloc (.cells #[.slice none 0 0] 24)) (.cells #[.int .i64 0] 26)
  rw [World.size_alloc, hn₀] at h1
  rw [hn₀] at h0 ⊢
  have cG := hid (fun W (hW : Sl W 35 encE v l) => iGood_all l v W hW hk hl)
  obtain ⟨vp, vc, rfl, hlc⟩ := hs.shape
  obtain ⟨qp, qc, rfl, -⟩ := hp.shape
  have hsB : ∀ W, Below n₀ w W → Sl W 35 encE (.slice vp l.length vc) l := fun W hB => (Kept.of_below (hn₀ ▸ hB : Below w.heap.size w W) 0).sl hs
  have hpB : ∀ W, Below n₀ w W → Sl W 1 encI (.slice qp places.length qc) places := fun W hB => (Kept.of_below (hn₀ ▸ hB : Below w.heap.size w W) 0).sl hp
  obtain ⟨W1, hW1⟩ : ∃ W : World, W = (w.alloc (.cells #[.slice none 0 0] 24)).alloc (.cells #[.int .i64 0] 26) := ⟨_, rfl⟩
  rw [← hW1] at h0 h1 B1
  obtain ⟨gb, hgb⟩ : ∃ x, goodI l = x := ⟨_, rfl⟩
  rw [hgb] at cG
  replace hgb := hid hgb
  replace hsB := hid hsB
  replace hpB := hid hpB
  obtain ⟨PL, hPL⟩ : ∃ x, places.length = x := ⟨_, rfl⟩
  obtain ⟨L, hL⟩ : ∃ x, l.length = x := ⟨_, rfl⟩
  rw [hL] at cG hsB hl ⊢
  rw [hPL] at hpB hpl ⊢
  replace hL := hid hL
  replace hPL := hid hPL
  refine calls_of_marks Try.func10 rfl ?_
  simp only [Try.ntmps10, List.size_toArray, List.length_cons, List.length_nil, Nat.reduceAdd, Nat.reduceSub, Array.replicate_succ, Array.replicate_zero, List.push_toArray, List.append_toArray, List.nil_append, List.cons_append]
  gi_upto_region 1 with (fail)
  rw [← hW1]
  clear hW1 hs hp
  gi_wp2_with (fail)
  refine ⟨trivial, rfl, (callsIn_wide.2 (cG.out _ (hsB.out _ B1))).mono ?_⟩
  rintro e W2 ⟨rfl, b2⟩
  replace h0 := (Kept.of_below b2 0).same _ _ h0 (.inl rfl)
  replace h1 := (Kept.of_below b2 0).same _ _ h1 (.inl rfl)
  have B2 := B1.trans (b2.mono (by have := B1.size; omega))
  clear b2 B1 cG
  have c0 := cell_blk (i := 0) h0 rfl
  have c1 := cell_blk (i := 0) h1 rfl
  have f0 := frozen_blk (i := 0) h0
  have f1 := frozen_blk (i := 0) h1
  cases gb with
  | false =>
    have hres : packS l places = ([], 11) := by unfold packS; rw [if_neg (by rw [hgb.out]; simp)]
    replace hres := hid hres
    gi_wp2_with (fail)
    exact outPack0 (n₀ := n₀) (v := .slice none 0 0) (n := 11) ((setCell_off (by omega)).trans (setCell_blk h0)) (setCell_blk ((setCell_off (by omega)).trans h1)) rfl rfl ⟨_, _, rfl, below_set (below_set B2 (Nat.le_refl _)) (by omega), AnsP.none _ _ hres.out⟩
  | true =>
    have hLi : (L : Int) ≤ 9223372036854775807 := by omega
    have cS := hid (fun W => Size_any (L : Int) W hLi)
    obtain ⟨sz, hsz⟩ : ∃ x, sizeS (L : Int) = x := ⟨_, rfl⟩
    rw [hsz] at cS
    have hpk : packS l places = if (places.length : Int) ≠ sizeS l.length then ([], 1) else if l = [] then ([], 0) else
      if rootOk (places.take (places.length - 1)) = true then (leafsS l (nLeaf l.length) ++ [sealB (rootB (places.take (places.length - 1)))], 0) else ([], 11) := by unfold packS; rw [if_pos hgb.out]
    rw [hL.out, hPL.out, hsz] at hpk
    replace hpk := hid hpk
    replace hsz := hid hsz
    gi_wp2_with (fail)
    refine ⟨trivial, rfl, (callsIn_wide.2 (cS.out _)).mono ?_⟩
    rintro e W3 ⟨rfl, rfl⟩
    clear cS
    by_cases hps : (PL : Int) = sz
    · subst hps
      by_cases hL0 : L = 0
      · subst hL0
        have hres : packS l places = ([], 0) := by rw [hpk.out, if_neg (by simp), if_pos (List.length_eq_zero_iff.1 hL.out)]
        replace hres := hid hres
        clear hpk hsz hsB hpB hL hPL hLi
        gi_wp2_with (fail)
        exact outPack0 (n₀ := n₀) (v := .slice none 0 0) (n := 0) ((setCell_off (by omega)).trans (setCell_blk h0)) (setCell_blk ((setCell_off (by omega)).trans h1)) rfl rfl ⟨_, _, rfl, below_set (below_set B2 (Nat.le_refl _)) (by omega), AnsP.none _ _ hres.out⟩
      · have hLI : ¬ (L : Int) = 0 := by omega
        have hl0 : l ≠ [] := fun e => hL0 (by rw [← hL.out, e]; rfl)
        obtain ⟨b, o, c9, he9, hc1, hc2, -⟩ := (hsB.out _ B2).open hl0
        obtain ⟨rfl, -, rfl⟩ := Value.slice.inj he9
        clear he9
        rw [hL.out] at hc1
        have hszv : PL = nLeaf L + 1 := by
          have h9 := hsz.out
          unfold sizeS at h9
          rw [if_neg (by omega)] at h9
          unfold nLeaf
          omega
        have hnl : 1 ≤ nLeaf L ∧ 3 * (nLeaf L - 1) < L ∧ L ≤ 3 * nLeaf L := by unfold nLeaf; omega
        obtain ⟨NL, hNL⟩ : ∃ x, nLeaf L = x := ⟨_, rfl⟩
        have hpk2 : packS l places = if rootOk (places.take (PL - 1)) = true then (leafsS l NL ++ [sealB (rootB (places.take (PL - 1)))], 0) else ([], 11) := by rw [hpk.out, if_neg (by simp), if_neg hl0, hNL]
        rw [hNL] at hszv hnl
        clear hNL hpk hsz
        have hPN : PL - 1 = NL := by omega
        rw [hPN] at hpk2
        clear hPN
        replace hszv := hid hszv
        replace hpk2 := hid hpk2
        obtain ⟨nx, hnx⟩ : ∃ x, W3.heap.size = x := ⟨_, rfl⟩
        have hnx2 : n₀ + 1 < nx := by have := (Array.getElem?_eq_some_iff.1 h1).1; omega
        have bx := World.alloc_heap_new W3 (.cells #[.slice none 0 0] 24)
        rw [hnx] at bx
        have h0x := (Kept.alloc 0 W3 (.cells #[.slice none 0 0] 24)).same _ _ h0 (.inl rfl)
        have h1x := (Kept.alloc 0 W3 (.cells #[.slice none 0 0] 24)).same _ _ h1 (.inl rfl)
        have Bx := B2.alloc (by have := B2.size; omega) (.cells #[.slice none 0 0] 24)
        have zx : (W3.alloc (.cells #[.slice none 0 0] 24)).heap.size = nx + 1 := by rw [World.size_alloc, hnx]
        obtain ⟨W4, hW4⟩ : ∃ W : World, W = W3.alloc (.cells #[.slice none 0 0] 24) := ⟨_, rfl⟩
        rw [← hW4] at bx h0x h1x Bx zx
        gi_upto_region 8 with (fail)
        rw [← hW4]
        clear hW4 c0 c1 f0 f1 h0 h1 B2
        have cCh := hid (chunkCE_any (some ⟨b, o, none⟩) L vc 3 W4 (by omega))
        gi_wp2_with (fail)
        refine ⟨trivial, rfl, (callsIn_wide.2 cCh.out).mono ?_⟩
        rintro e W5 ⟨rfl, hW5⟩
        clear cCh
        have y1 := World.alloc_heap_new W4 (.cells #[.slice (some ⟨b, o, none⟩) L vc] 22)
        have z1 : (W4.alloc (.cells #[.slice (some ⟨b, o, none⟩) L vc] 22)).heap.size = nx + 2 := by rw [World.size_alloc, zx]
        have y2 := World.alloc_heap_new (W4.alloc (.cells #[.slice (some ⟨b, o, none⟩) L vc] 22)) (.cells #[.int .i64 (3 : Nat)] 3)
        have y1' := (Kept.alloc 0 (W4.alloc (.cells #[.slice (some ⟨b, o, none⟩) L vc] 22)) (.cells #[.int .i64 (3 : Nat)] 3)).same _ _ y1 (.inl rfl)
        have z2 : ((W4.alloc (.cells #[.slice (some ⟨b, o, none⟩) L vc] 22)).alloc (.cells #[.int .i64 (3 : Nat)] 3)).heap.size = nx + 3 := by rw [World.size_alloc, z1]
        rw [zx] at y1'
        rw [z1] at y2
        have kx : Kept 0 W4 ((W4.alloc (.cells #[.slice (some ⟨b, o, none⟩) L vc] 22)).alloc (.cells #[.int .i64 (3 : Nat)] 3)) := (Kept.alloc _ _ _).trans (Kept.alloc _ _ _)
        have B5 := (Bx.alloc (by omega) (.cells #[.slice (some ⟨b, o, none⟩) L vc] 22)).alloc (by omega) (.cells #[.int .i64 (3 : Nat)] 3)
        rw [← hW5] at y1' y2 z2 kx B5
        rw [zx]
        have b5 := kx.same _ _ bx (.inl rfl)
        have h05 := kx.same _ _ h0x (.inl rfl)
        have h15 := kx.same _ _ h1x (.inl rfl)
        clear hW5 y1 z1 zx bx h0x h1x Bx kx
        gi_wp2_with (fail)
        refine range_p (act := ?mk) rfl (enters_of Try.func44 (by kernel_rfl) rfl) (chunkCE_seq (nx + 1) (nx + 1 + 1) b o L vc 3 NL (by omega) hl ⟨hc1, hc2⟩ (by constructor <;> (try split) <;> omega)) (fun _ => rfl)
          (fun pre V => (∃ u, V.heap[nx]? = some (.cells #[u] 24 (0, 0)) ∧ V.ownsRow (nx + 3) 43 128 u pre.length ((pre.map fun j => sealB (encB (chunkAt l j))).flatMap keyV)) ∧ V.heap[n₀]? = some (.cells #[.slice none 0 0] 24 (0, 0)) ∧ V.heap[n₀ + 1]? = some (.cells #[.int .i64 0] 26 (0, 0)) ∧ nx + 3 ≤ V.heap.size ∧ Below n₀ w V)
          (fun _ _ _ => False)
          ?hI (fun _ _ _ _ _ h => h) (fun B A C hk h => ⟨hk.cell h.1, hk.cell h.2⟩) (fun _ _ => St.pure _) (fun _ => St.pure _) (fun _ => St.pure _) ?h0 ⟨cell_blk (i := 0) y1' rfl, cell_blk (i := 0) y2 rfl⟩ ?assign ?body ?done ?stop
        case assign =>
          intro l9 x V K hK
          dsimp only [encCE]
          gi_wp2
          exact hK
        case hI =>
          rintro pre A C hk9 ⟨⟨u, q1, q2⟩, q3, q4, q5, q6⟩
          exact ⟨⟨u, hk9.same _ _ q1 (.inl rfl), hk9.owns q2⟩, hk9.same _ _ q3 (.inl rfl), hk9.same _ _ q4 (.inl rfl), Nat.le_trans q5 hk9.size, hk9.below (by omega) (by omega) q6⟩
        case h0 => exact ⟨⟨_, b5, World.ownsRow_nil _ _ _ _⟩, h05, h15, by omega, B5⟩
        case stop =>
          rintro D c pre V _ _ h _
          exact h.elim
        case done =>
          rintro D xs V hD rfl ⟨⟨u, q1, q2⟩, q3, q4, q5, q6⟩ hRc hK
          rw [List.length_range] at q2
          have hlv : (List.range NL).map (fun j => sealB (encB (chunkAt l j))) = leafsS l NL := rfl
          rw [hlv] at q2
          have hll : (leafsS l NL).length = NL := by unfold leafsS; simp
          have hpn0 : places ≠ [] := fun e => by have := hPL.out; have := hszv.out; rw [e] at *; simp at *; omega
          obtain ⟨pb, po, pc, he9, hp1, hp2, -⟩ := (hpB.out V q6).open hpn0
          obtain ⟨rfl, -, rfl⟩ := Value.slice.inj he9
          clear he9
          rw [hPL.out] at hp1
          have sT := sl_takeI (hpB.out V q6) (k := NL) (by rw [hPL.out]; have := hszv.out; omega)
          have htl : (places.take NL).length = NL := by rw [List.length_take, hPL.out]; have := hszv.out; omega
          have cR := Root_any (places.take NL) _ V sT (by rw [htl]; have := hszv.out; omega)
          have hrs : rootS (places.take NL) = if rootOk (places.take NL) = true then (sealB (rootB (places.take NL)), 0) else (zer128, 11) := rfl
          have hpw : IntKind.i64.wrap ((PL : Int) - 1) = (NL : Int) := by have := hszv.out; rw [IntKind.wrap_i64]; omega
          have hpi : (NL : Int) ≤ (qc : Int) := by have := hszv.out; omega
          have hpn : NL ≤ 1000000 := by have := hszv.out; omega
          have hlen2 : (rootB (places.take NL)).length ≤ 124 ∨ rootOk (places.take NL) = false := by
            by_cases h : NL ≤ 100
            · left
              unfold rootB
              rw [List.length_cons, List.length_cons, List.length_map, htl]; omega
            · right
              unfold rootOk
              simp only [Bool.and_eq_false_iff, decide_eq_false_iff_not]
              left; right; omega
          obtain ⟨RB, hRB⟩ : ∃ y, sealB (rootB (places.take NL)) = y := ⟨_, rfl⟩
          obtain ⟨rk, hrk⟩ : ∃ y, rootOk (places.take NL) = y := ⟨_, rfl⟩
          obtain ⟨OB, hOB⟩ : ∃ y : List UInt8, y = if rk = true then RB else zer128 := ⟨_, rfl⟩
          have hO3 : OB.length = 128 := by
            rw [hOB, ← hRB]
            rw [hrk] at hlen2
            rcases hlen2 with h | h
            · split
              · exact sealB_len h
              · rfl
            · rw [h]; rfl
          have hres : packS l places = if rk = true then (leafsS l NL ++ [RB], 0) else ([], 11) := by rw [hpk2.out, hrk, hRB]
          obtain ⟨er, her⟩ : ∃ y : Int, y = if rk = true then 0 else 11 := ⟨_, rfl⟩
          have hrs2 : rootS (places.take NL) = (OB, er) := by rw [hrs, hrk, hOB, her, hRB]; cases rk <;> rfl
          rw [hrs2] at cR
          dsimp only at cR
          clear hrs hrs2 hlen2 hRB hrk htl sT hlv
          replace cR := hid cR
          replace hres := hid hres
          replace hOB := hid hOB
          replace her := hid her
          gi_wp2_with (fail)
          refine ⟨trivial, rfl, (callsIn_wide.2 cR.out).mono ?_⟩
          rintro e V2 ⟨rfl, b2⟩
          have hK2 : V2.heap[D]? = some (.deferred (some [])) := (b2.block D (Array.getElem?_eq_some_iff.1 hK).1).trans hK
          obtain ⟨ne, hne⟩ : ∃ n, V2.heap.size = n := ⟨_, rfl⟩
          have hne2 : nx + 3 ≤ ne := by have := b2.size; omega
          have kA := (Kept.alloc 0 V2 (.cells (rowU OB) 43)).trans (Kept.alloc 0 (V2.alloc (.cells (rowU OB) 43)) (.cells (rowU OB) 43))
          have oL := kA.owns ((Kept.of_below b2 0).owns q2)
          have gxL := kA.same _ _ ((Kept.of_below b2 0).same _ _ q1 (.inl rfl)) (.inl rfl)
          have h0L := kA.same _ _ ((Kept.of_below b2 0).same _ _ q3 (.inl rfl)) (.inl rfl)
          have h1L := kA.same _ _ ((Kept.of_below b2 0).same _ _ q4 (.inl rfl)) (.inl rfl)
          have B2 := q6.trans (b2.mono (by have := q6.size; omega))
          have BL := (B2.alloc (by have := B2.size; omega) (.cells (rowU OB) 43)).alloc (by have := B2.size; simp; omega) (.cells (rowU OB) 43)
          have bbL : Below V.heap.size V ((V2.alloc (.cells (rowU OB) 43)).alloc (.cells (rowU OB) 43)) := (b2.alloc b2.size _).alloc (by have := b2.size; simp; omega) _
          have g3 := World.alloc_heap_new V2 (.cells (rowU OB) 43)
          rw [hne] at g3
          have gN := World.alloc_heap_new (V2.alloc (.cells (rowU OB) 43)) (.cells (rowU OB) 43)
          rw [World.size_alloc, hne] at gN
          have hz3V : (V2.alloc (.cells (rowU OB) 43)).heap.size = ne + 1 := by rw [World.size_alloc, hne]
          have gx3 := (Kept.alloc 0 V2 (.cells (rowU OB) 43)).same _ _ ((Kept.of_below b2 0).same _ _ q1 (.inl rfl)) (.inl rfl)
          have h03 := (Kept.alloc 0 V2 (.cells (rowU OB) 43)).same _ _ ((Kept.of_below b2 0).same _ _ q3 (.inl rfl)) (.inl rfl)
          have h13 := (Kept.alloc 0 V2 (.cells (rowU OB) 43)).same _ _ ((Kept.of_below b2 0).same _ _ q4 (.inl rfl)) (.inl rfl)
          have B3 := B2.alloc (by have := B2.size; omega) (.cells (rowU OB) 43)
          have hi7 : (Try.prog.info? 43).map (·.size) = some (rowU OB).size := by rw [rowU_size, hO3]; kernel_rfl
          have hik : (Try.prog.info? 43).map (·.size) = some (keyV OB).length := by rw [keyV_len, hO3]; kernel_rfl
          clear cR hRc
          gi_upto_region 15 with (refine wpListIn_store_new hne rfl 43 _ _ rfl _ (rowU OB) rfl rfl hi7 (by rw [rowU_size, hO3]; first | done | kernel_rfl) (one_rowU _) ?_)
          try simp only [Act.put]
          obtain ⟨V3, hV3⟩ : ∃ V, V = V2.alloc (.cells (rowU OB) 43) := ⟨_, rfl⟩
          rw [← hV3] at oL gxL h0L h1L BL bbL g3 gN hz3V gx3 h03 h13 B3 ⊢
          have hr := range_blk (cs := keyV OB) g3
          obtain ⟨VL, hVL⟩ : ∃ V, V = V3.alloc (.cells (rowU OB) 43) := ⟨_, rfl⟩
          rw [← hVL] at oL gxL h0L h1L BL bbL gN
          have sL := sl_one128 gN
          have hML : nx + 3 ≤ VL.heap.size := by have h9 := (Array.getElem?_eq_some_iff.1 gN).1; omega
          have dx := cell_blk (i := 0) gx3 rfl
          have hKL := (bbL.block D (Array.getElem?_eq_some_iff.1 hK).1).trans hK
          clear hV3
          cases rk with
          | false =>
            obtain rfl : er = 11 := her.out
            have hK3 : V3.heap[D]? = some (.deferred (some [])) := by
              have h9 : V3.heap[D]? = VL.heap[D]? := by rw [hVL]; exact (Below.heap_alloc V3 _ D (by have := (Array.getElem?_eq_some_iff.1 hK2).1; omega)).symm
              rw [h9]; exact hKL
            have t0 := cell_blk (i := 0) h03 rfl
            have t1 := cell_blk (i := 0) h13 rfl
            have s0 := frozen_blk (i := 0) h03
            have s1 := frozen_blk (i := 0) h13
            have hDn : D ≠ n₀ ∧ D ≠ n₀ + 1 := by omega
            have hK4 : ((V3.setCell ⟨n₀, 0, none⟩ (.slice none 0 0)).setCell ⟨n₀ + 1, 0, none⟩ (.int .i64 11)).heap[D]? = some (.deferred (some [])) := (setCell_off hDn.2).trans ((setCell_off hDn.1).trans hK3)
            have hB4 := below_set (i := 0) (x := .int .i64 11) (below_set (i := 0) (x := .slice none 0 0) B3 (Nat.le_refl _)) (show n₀ ≤ n₀ + 1 by omega)
            have hP4 : Below n₀ w (((V3.setCell ⟨n₀, 0, none⟩ (.slice none 0 0)).setCell ⟨n₀ + 1, 0, none⟩ (.int .i64 11)).putObj D (.deferred none)) := (Kept.putObj (B := n₀) (.deferred none) (by omega) hK4 rfl).below (Nat.le_refl _) (by omega) hB4
            replace hK4 := hid hK4
            replace hP4 := hid hP4
            clear hVL hB4 hK3
            gi_wp2_with (fail)
            exact outPack (n₀ := n₀) (v := .slice none 0 0) (n := 11) hK4.out ((setCell_off (by omega)).trans (setCell_blk h03)) (setCell_blk ((setCell_off (by omega)).trans h13)) rfl rfl ⟨_, _, rfl, hP4.out, AnsP.none _ _ (by rw [hres.out]; rfl)⟩
          | true =>
            obtain rfl : er = 0 := her.out
            obtain rfl : OB = RB := hOB.out
            clear h03 h13
            gi_wp2_with (first | refine wpListIn_load_mid rfl 43 _ rfl ne 0 rfl (keyV OB) _ hr Try.underlying43 rfl hik ?_ | (refine wpListIn_build1 rfl 24 43 _ rfl Try.underlying24 hi0 hz0 (rowU OB) rfl (by rw [rowU_size, hO3, hz1]) (by rw [hz1]; decide) ?_; rw [← hVL]; (try rw [hz3V])) | (gi_at_builtin; go_must (refine wpListIn_append_sl rfl _ _ 24 rfl (nx + 3) 43 i0 z 128 128 Try.underlying24 hi0 hz0 hz1 hz2 hz3 (by decide) _ _ _ rfl oL keyV _ [OB] rfl sL (keyV_enc hO3) (by unfold maxLen; simp only [List.length_singleton]; omega) (by simp only [List.length_singleton]; omega) hML ?_; intro v7 w7 o7 hg7 n7; obtain ⟨g7, c7, rfl⟩ := ownsRow_succ o7; have gx7 := grown_blkI oL hg7 (show nx < nx + 3 by omega) gxL; have h07 := grown_blkI oL hg7 (show n₀ < nx + 3 by omega) h0L; have h17 := grown_blkI oL hg7 (show n₀ + 1 < nx + 3 by omega) h1L; have d7 := cell_blk (i := 0) gx7 rfl; have e7 := frozen_blk (i := 0) gx7; have d70 := cell_blk (i := 0) h07 rfl; have e70 := frozen_blk (i := 0) h07; have d71 := cell_blk (i := 0) h17 rfl; have e71 := frozen_blk (i := 0) h17)))
            have hB7 := BL.grown hg7 (by omega) (fun j e9 => by have := own_baseI oL e9; omega)
            have hK7 : w7.heap[D]? = some (.deferred (some [])) := by
              have h9 := keeps_own bbL oL hg7 gxL (x := .int .i64 0) D _ hK rfl
              exact (setCell_off (show D ≠ nx by omega)).symm.trans h9
            have hDn : D ≠ n₀ ∧ D ≠ n₀ + 1 := by omega
            have hK8 : ((w7.setCell ⟨n₀, 0, none⟩ (.slice (some ⟨g7, 0, none⟩) (NL + 1) c7)).setCell ⟨n₀ + 1, 0, none⟩ (.int .i64 0)).heap[D]? = some (.deferred (some [])) := (setCell_off hDn.2).trans ((setCell_off hDn.1).trans hK7)
            have hB8 := below_set (i := 0) (x := .int .i64 0) (below_set (i := 0) (x := .slice (some ⟨g7, 0, none⟩) (NL + 1) c7) hB7 (Nat.le_refl _)) (show n₀ ≤ n₀ + 1 by omega)
            refine outPack (n₀ := n₀) (v := .slice (some ⟨g7, 0, none⟩) (NL + 1) c7) (n := 0) hK8 ((setCell_off (by omega)).trans (setCell_blk h07)) (setCell_blk ((setCell_off (by omega)).trans h17)) rfl rfl ⟨_, _, rfl, (Kept.putObj (B := n₀) (.deferred none) (by omega) hK8 rfl).below (Nat.le_refl _) (by omega) hB8, ?_, by rw [hres.out]; rfl⟩
            refine (Kept.putObj (B := 0) _ (Nat.zero_le _) hK8 rfl).owns ?_
            rw [show packS l places = (leafsS l NL ++ [OB], 0) by rw [hres.out]; rfl]
            show World.ownsRow _ n₀ 43 128 _ (leafsS l NL ++ [OB]).length ((leafsS l NL ++ [OB]).flatMap keyV)
            rw [List.length_append, hll, List.flatMap_append]
            obtain ⟨o1, o2⟩ := o7
            refine ⟨o1, ?_⟩
            rcases o2 with ⟨e0, -⟩ | ⟨g, cap, cur, e0, hg, hh, r⟩
            · cases e0
            · cases e0
              exact .inr ⟨g7, c7, cur, rfl, by omega, (setCell_off (by omega)).trans ((setCell_off (by omega)).trans hh), r⟩
        case body =>
          rintro l9 pre x V hl9 _ ⟨⟨u, q1, q2⟩, q3, q4, q5, q6⟩ hRc hadm
          have hpx : x = pre.length ∧ x < NL := by
            obtain ⟨t, ht⟩ := hadm
            have h9 := congrArg (fun l => l[pre.length]?) ht
            have h8 := congrArg List.length ht
            simp at h9 h8
            rw [List.getElem?_range (by omega)] at h9
            exact ⟨by simpa using h9, by have := Option.some.inj h9; omega⟩
          obtain ⟨hpx1, hxN⟩ := hpx
          have hpn : pre.length ≤ 1000000 := by have := hszv.out; omega
          have hx3 : 3 * x < L := by omega
          have hcl := chunk_len (l := l) (j := x) (by rw [hL.out]; exact hx3)
          rw [hL.out] at hcl
          have hm : min 3 (L - x * 3) = (chunkAt l x).length := by omega
          have hc3 : (chunkAt l x).length ≤ 3 := by omega
          have sC := sl_chunk (x := x) (hsB.out V q6) hx3 hm
          have hkc : ∀ e ∈ chunkAt l x, e.key.length = 32 := fun e he => hkk e (chunk_mem he)
          have cE := Encode_any (chunkAt l x) _ V sC hkc (by omega)
          have hen : encS (chunkAt l x) = (sealB (encB (chunkAt l x)), 0) := by unfold encS; rw [if_pos (chunk_good hgb.out (by rw [hL.out]; exact hx3))]
          rw [hen] at cE
          have hnext : ((pre ++ [x]).map fun j => sealB (encB (chunkAt l j))).flatMap keyV = (pre.map fun j => sealB (encB (chunkAt l j))).flatMap keyV ++ [sealB (encB (chunkAt l x))].flatMap keyV := by rw [List.map_append, List.flatMap_append]; rfl
          have hO3 : (sealB (encB (chunkAt l x))).length = 128 := sealB_len (by unfold encB; rw [List.length_cons, List.length_cons, entsB_len hkc]; omega)
          obtain ⟨OB, hOB⟩ : ∃ y, sealB (encB (chunkAt l x)) = y := ⟨_, rfl⟩
          rw [hOB] at cE hO3 hnext
          obtain ⟨m, hmm⟩ : ∃ m, min 3 (L - x * 3) = m := ⟨_, rfl⟩
          rw [hmm] at cE ⊢
          dsimp only at cE
          replace hnext := hid hnext
          replace cE := hid cE
          clear hen hcl hm hmm sC hkc hadm hpx1 hOB hc3
          gi_wp2_with (fail)
          refine ⟨trivial, rfl, (CallsIn.inRound l9 (callsIn_wide.2 cE.out)).mono ?_⟩
          rintro e V2 ⟨rfl, b2⟩
          obtain ⟨ne, hne⟩ : ∃ n, V2.heap.size = n := ⟨_, rfl⟩
          have hne2 : nx + 3 ≤ ne := by have := b2.size; omega
          have kA := (Kept.alloc 0 V2 (.cells (rowU OB) 43)).trans (Kept.alloc 0 (V2.alloc (.cells (rowU OB) 43)) (.cells (rowU OB) 43))
          have oL := kA.owns ((Kept.of_below b2 0).owns q2)
          have gxL := kA.same _ _ ((Kept.of_below b2 0).same _ _ q1 (.inl rfl)) (.inl rfl)
          have h0L := kA.same _ _ ((Kept.of_below b2 0).same _ _ q3 (.inl rfl)) (.inl rfl)
          have h1L := kA.same _ _ ((Kept.of_below b2 0).same _ _ q4 (.inl rfl)) (.inl rfl)
          have B2 := q6.trans (b2.mono (by have := q6.size; omega))
          have BL := (B2.alloc (by have := B2.size; omega) (.cells (rowU OB) 43)).alloc (by have := B2.size; simp; omega) (.cells (rowU OB) 43)
          have bbL : Below V.heap.size V ((V2.alloc (.cells (rowU OB) 43)).alloc (.cells (rowU OB) 43)) := (b2.alloc b2.size _).alloc (by have := b2.size; simp; omega) _
          have g3 := World.alloc_heap_new V2 (.cells (rowU OB) 43)
          rw [hne] at g3
          have gN := World.alloc_heap_new (V2.alloc (.cells (rowU OB) 43)) (.cells (rowU OB) 43)
          rw [World.size_alloc, hne] at gN
          have hz3V : (V2.alloc (.cells (rowU OB) 43)).heap.size = ne + 1 := by rw [World.size_alloc, hne]
          have gx3 := (Kept.alloc 0 V2 (.cells (rowU OB) 43)).same _ _ ((Kept.of_below b2 0).same _ _ q1 (.inl rfl)) (.inl rfl)
          have h03 := (Kept.alloc 0 V2 (.cells (rowU OB) 43)).same _ _ ((Kept.of_below b2 0).same _ _ q3 (.inl rfl)) (.inl rfl)
          have h13 := (Kept.alloc 0 V2 (.cells (rowU OB) 43)).same _ _ ((Kept.of_below b2 0).same _ _ q4 (.inl rfl)) (.inl rfl)
          have B3 := B2.alloc (by have := B2.size; omega) (.cells (rowU OB) 43)
          have hi7 : (Try.prog.info? 43).map (·.size) = some (rowU OB).size := by rw [rowU_size, hO3]; kernel_rfl
          have hik : (Try.prog.info? 43).map (·.size) = some (keyV OB).length := by rw [keyV_len, hO3]; kernel_rfl
          have hRc2 := hRc
          clear cE
          gi_upto_region 11 with (refine wpListIn_store_new hne rfl 43 _ _ rfl _ (rowU OB) rfl rfl hi7 (by rw [rowU_size, hO3]; first | done | kernel_rfl) (one_rowU _) ?_)
          try simp only [Act.put]
          obtain ⟨V3, hV3⟩ : ∃ V, V = V2.alloc (.cells (rowU OB) 43) := ⟨_, rfl⟩
          rw [← hV3] at oL gxL h0L h1L BL bbL g3 gN hz3V gx3 h03 h13 B3 ⊢
          have hr := range_blk (cs := keyV OB) g3
          obtain ⟨VL, hVL⟩ : ∃ V, V = V3.alloc (.cells (rowU OB) 43) := ⟨_, rfl⟩
          rw [← hVL] at oL gxL h0L h1L BL bbL gN
          have sL := sl_one128 gN
          have hML : nx + 3 ≤ VL.heap.size := by have h9 := (Array.getElem?_eq_some_iff.1 gN).1; omega
          have dx := cell_blk (i := 0) gx3 rfl
          clear hV3
          gi_wp2_with (first | refine wpListIn_load_mid rfl 43 _ rfl ne 0 rfl (keyV OB) _ hr Try.underlying43 rfl hik ?_ | (refine wpListIn_build1 rfl 24 43 _ rfl Try.underlying24 hi0 hz0 (rowU OB) rfl (by rw [rowU_size, hO3, hz1]) (by rw [hz1]; decide) ?_; rw [← hVL]; (try rw [hz3V])) | (gi_at_builtin; go_must (refine wpListIn_append_sl rfl _ _ 24 rfl (nx + 3) 43 i0 z 128 128 Try.underlying24 hi0 hz0 hz1 hz2 hz3 (by decide) _ _ _ rfl oL keyV _ [OB] rfl sL (keyV_enc hO3) (by unfold maxLen; simp only [List.length_singleton]; omega) (by simp only [List.length_singleton]; omega) hML ?_; intro v7 w7 o7 hg7 n7; obtain ⟨g7, c7, rfl⟩ := ownsRow_succ o7; have gx7 := grown_blkI oL hg7 (show nx < nx + 3 by omega) gxL; have h07 := grown_blkI oL hg7 (show n₀ < nx + 3 by omega) h0L; have h17 := grown_blkI oL hg7 (show n₀ + 1 < nx + 3 by omega) h1L; have d7 := cell_blk (i := 0) gx7 rfl; have e7 := frozen_blk (i := 0) gx7; have d70 := cell_blk (i := 0) h07 rfl; have e70 := frozen_blk (i := 0) h07; have d71 := cell_blk (i := 0) h17 rfl; have e71 := frozen_blk (i := 0) h17)))
          have hB7 := BL.grown hg7 (by omega) (fun j e9 => by have := own_baseI oL e9; omega)
          refine ⟨⟨?_, fun k o9 hB9 hk9 ho9 => keeps_own bbL oL hg7 gxL k o9 hk9 ho9⟩, ⟨?_, ?_⟩, ⟨_, setCell_blk gx7, ?_⟩, (setCell_off (by omega)).trans h07, (setCell_off (by omega)).trans h17, ?_, below_set hB7 (by omega)⟩
          · have := bbL.size; have := hg7.size; simp [World.setCell]; omega
          · have h9 := (Below.cell bbL (p := ⟨nx + 1, 0, none⟩) (World.block_lt_of_cell? V _ hRc2.1)).trans hRc2.1
            have h8 := hg7.cell h9 (fun e9 => by have := own_baseI oL e9.symm; simp at this)
            exact (World.cell?_of_block (setCell_off (show _ ≠ nx by dsimp only; omega))).trans h8
          · have h9 := (Below.cell bbL (p := ⟨nx + 1 + 1, 0, none⟩) (World.block_lt_of_cell? V _ hRc2.2)).trans hRc2.2
            have h8 := hg7.cell h9 (fun e9 => by have := own_baseI oL e9.symm; simp at this; omega)
            exact (World.cell?_of_block (setCell_off (show _ ≠ nx by dsimp only; omega))).trans h8
          · obtain ⟨o1, o2⟩ := o7
            rw [hnext.out, List.length_append]
            refine ⟨o1, ?_⟩
            rcases o2 with ⟨e0, -⟩ | ⟨g, cap, cur, e0, hg, hh, r⟩
            · cases e0
            · exact .inr ⟨g, cap, cur, e0, hg, (setCell_off (by omega)).trans hh, r⟩
          · have := bbL.size; have := hg7.size; simp [World.setCell]; omega
    · have hpsI : ¬ (PL : Int) = sz := hps
      have hres : packS l places = ([], 1) := by rw [hpk.out, if_pos hps]
      replace hres := hid hres
      clear hpk hsz hsB hpB hL hPL hLi
      gi_wp2_with (fail)
      exact outPack0 (n₀ := n₀) (v := .slice none 0 0) (n := 1) ((setCell_off (by omega)).trans (setCell_blk h0)) (setCell_blk ((setCell_off (by omega)).trans h1)) rfl rfl ⟨_, _, rfl, below_set (below_set B2 (Nat.le_refl _)) (by omega), AnsP.none _ _ hres.out⟩
end Go.Proofs.Ytomgjapjeckokaa
