/- MarkupBack: plain facts and the walk (printed by gen_mkt.py). -/
import Derived.Test.YtgbfekimflnaiaaDoorMkS
import Derived.Test.YtgbfekimflnaiaaDoorMkO
import Derived.Test.YtgbfekimflnaiaaDoorMkL
namespace Go.Proofs.YtgbfekimflnaiaaDoor
open Go.RowKit Go.Shelf Go.Lib

theorem joinB_bnd (sep : L8) {B : Nat} : ∀ ws : List L8, (∀ x ∈ ws, x.length ≤ B) → (joinB sep ws).length ≤ ws.length * (B + sep.length) := by
  intro ws
  induction ws with
  | nil => intro _; exact Nat.zero_le _
  | cons x r ih =>
    intro h
    have hx := h x List.mem_cons_self
    have e : (x :: r).length * (B + sep.length) = r.length * (B + sep.length) + (B + sep.length) := by rw [List.length_cons, Nat.succ_mul]
    cases r with
    | nil => rw [e]; show x.length ≤ _; simp; omega
    | cons y r =>
      have := ih fun z hz => h z (List.mem_cons_of_mem _ hz)
      rw [joinB_cons _ _ (by simp), e, List.length_append, List.length_append]
      omega
theorem lineP_bnd (p : P8) {B : Nat} (h : ∀ x ∈ p.2, x.length ≤ B) : (lineP p).length ≤ 3 + p.2.length * (B + 1) := by
  have hj : (joinB [32] p.2).length ≤ p.2.length * (B + 1) := joinB_bnd [32] p.2 h
  unfold lineP
  split
  · rw [List.length_append]; simp only [List.length_cons, List.length_nil]; omega
  · split
    · rw [List.length_append]; simp only [List.length_cons, List.length_nil]; omega
    · split
      · simp only [List.length_cons, List.length_nil]; omega
      · omega
/-- sizes of fair parts -/
theorem fair_sizes {L : List Pt} (h : FairP L) : (∀ x ∈ L, ∀ s ∈ x.2.2, s.size ≤ 1000000) ∧ L.length ≤ 1000 ∧ (∀ x ∈ L, x.2.2.length ≤ 1000000 ∧ (joinB [32] (x.2.2.map fun s => s.data.toList)).length ≤ 1000000) ∧ (sourceL (L.map pt8)).length ≤ 140737488355328 := by
  obtain ⟨h1, h2, h3⟩ := h
  have hsz : ∀ x ∈ L, ∀ s ∈ x.2.2, s.size ≤ 1000 := fun x hx s hs => Nat.le_trans (bytesOf_le hs) (Nat.le_trans (bytesAll_le hx) h1)
  have hj : ∀ x ∈ L, ∀ y ∈ x.2.2.map (fun s => s.data.toList), y.length ≤ 1000 := fun x hx y hy => by
    obtain ⟨s, hs, rfl⟩ := List.mem_map.1 hy
    rw [size8]; exact hsz x hx s hs
  refine ⟨fun x hx s hs => Nat.le_trans (hsz x hx s hs) (by omega), by omega, fun x hx => ⟨by have := h3 x hx; omega, ?_⟩, ?_⟩
  · refine Nat.le_trans (joinB_bnd [32] (B := 1000) _ (hj x hx)) ?_
    have := h3 x hx
    rw [List.length_map]
    simp only [List.length_cons, List.length_nil]
    omega
  · unfold sourceL
    refine Nat.le_trans (joinB_bnd [10, 10] (B := 1000000) _ ?_) ?_
    · intro y hy
      obtain ⟨p, hp, rfl⟩ := List.mem_map.1 hy
      obtain ⟨x, hx, rfl⟩ := List.mem_map.1 hp
      refine Nat.le_trans (lineP_bnd (B := 1000) _ (hj x hx)) ?_
      have := h3 x hx
      show 3 + (x.2.2.map fun s => s.data.toList).length * (1000 + 1) ≤ 1000000
      rw [List.length_map]
      omega
    · rw [List.length_map, List.length_map]
      simp only [List.length_cons, List.length_nil]
      omega
theorem allG_good {L : List Pt} (h : allG L = true) : ∀ p ∈ L.map pt8, goodP p := fun p hp => by
  obtain ⟨x, hx, rfl⟩ := List.mem_map.1 hp
  have := List.all_eq_true.1 h x hx
  rw [goodB_eq] at this
  exact of_decide_eq_true this
theorem back_law {L : List Pt} {x : ByteArray} (h : (x.data.toList, (0 : Int)) = sourceR L) : allG L = true ∧ x.size ≤ 240 ∧ parseR x.data.toList = (0, L.map pt8) := by
  unfold sourceR at h
  split at h
  · rename_i hc
    obtain ⟨h1, -⟩ := Prod.mk.inj h
    have hg := allG_good hc.1
    refine ⟨hc.1, by rw [← size8, h1]; exact hc.2, ?_⟩
    rw [h1]
    unfold parseR
    rw [if_neg (by have := hc.2; omega), if_pos (plain_source hg), parse_source hg]
  · exact absurd (Prod.mk.inj h).2 (by decide)

def markB (k : Int) : List ByteArray := (markOf k).map toB
/-- all words of all parts, with marks -/
def haveB (M : List Pt) : List ByteArray := M.flatMap fun p => markB p.1 ++ p.2.2
theorem haveB_take {M : List Pt} {k : Nat} (h : k < M.length) : haveB (M.take (k + 1)) = haveB (M.take k) ++ (markB M[k].1 ++ M[k].2.2) := by
  unfold haveB
  rw [List.take_succ_eq_append_getElem h, List.flatMap_append]; simp
theorem haveB_le (M : List Pt) (k : Nat) : (haveB (M.take k)).length ≤ (haveB M).length := by
  have e : haveB M = haveB (M.take k) ++ haveB (M.drop k) := by
    unfold haveB; rw [← List.flatMap_append, List.take_append_drop]
  rw [e, List.length_append]; omega
theorem markB_map (k : Int) : (markB k).map (fun x => x.data.toList) = markOf k := by
  unfold markB
  rw [List.map_map]
  conv => rhs; rw [← List.map_id (markOf k)]
  exact List.map_congr_left fun x _ => toB_list x
theorem haveB_map (M : List Pt) : (haveB M).map (fun x => x.data.toList) = haveP (M.map pt8) := by
  unfold haveB haveP
  rw [List.map_flatMap, List.flatMap_map]
  refine congrArg (fun f => List.flatMap f M) (funext fun p => ?_)
  rw [List.map_append, markB_map]; rfl
theorem flat8 (P : List ByteArray) : (P.flatMap wdsB).map (fun x => x.data.toList) = (P.map fun x => x.data.toList).flatMap wordsL := by
  rw [List.map_flatMap, List.flatMap_map]
  exact congrArg (fun f => List.flatMap f P) (funext fun p => wds8 p)
theorem CutInv.words {c : UInt8} {l : L8} {f k : Nat} {P : List ByteArray} (h : CutInv c l f k (P.map fun x => x.data.toList)) : (P.flatMap wdsB).length ≤ l.length + 1 := by
  have e : (P.flatMap wdsB).length = ((P.map fun x => x.data.toList).flatMap wordsL).length := by rw [← flat8, List.length_map]
  rw [e]
  generalize (P.map fun x => x.data.toList) = L at *
  have key := Nat.le_trans (words_flat (cutB c l)) (Nat.le_of_eq (lines_sum c l))
  rcases h with ⟨-, -, h2, -⟩ | ⟨-, rfl⟩
  · rw [← h2, List.flatMap_append, List.length_append] at key; omega
  · exact key
theorem pcsB_map (c : UInt8) (s : ByteArray) : (pcsB c s).map (fun x => x.data.toList) = cutB c s.data.toList := by
  unfold pcsB
  rw [List.map_map]
  conv => rhs; rw [← List.map_id (cutB c s.data.toList)]
  exact List.map_congr_left fun x _ => toB_list x
theorem have_law {s : ByteArray} {M : List Pt} (h : parseR s.data.toList = (0, M.map pt8)) : haveB M = (pcsB 10 s).flatMap wdsB ∧ (haveB M).length ≤ s.size + 1 := by
  have hp : parseL s.data.toList = some (M.map pt8) := by
    unfold parseR at h
    split at h
    · exact absurd (Prod.mk.inj h).1 (by decide)
    · split at h
      · cases e : parseL s.data.toList with
        | none => rw [e] at h; exact absurd (Prod.mk.inj h).1 (by decide)
        | some l => rw [e] at h; rw [(Prod.mk.inj h).2]
      · exact absurd (Prod.mk.inj h).1 (by decide)
  have hq := parse_have hp
  rw [← haveB_map, ← pcsB_map, ← flat8] at hq
  have e : haveB M = (pcsB 10 s).flatMap wdsB := List.map_inj_right (fun _ _ h => ba_ext8 h) |>.1 hq
  refine ⟨e, ?_⟩
  have := CutInv.words (c := 10) (l := s.data.toList) (f := 0) (k := s.data.toList.length + 1) (P := pcsB 10 s) (.inr ⟨rfl, pcsB_map 10 s⟩)
  rw [size8] at this
  rw [e]; exact this
theorem parse_bad {s : ByteArray} {M : List Pt} {n : Int} (h : parseR s.data.toList = (n, M.map pt8)) (hs : s.size ≤ 240) (hn : n ≠ 0) : n = 15 ∧ M = [] := by
  unfold parseR at h
  rw [if_neg (by rw [size8]; omega)] at h
  split at h
  · cases e : parseL s.data.toList with
    | none => rw [e] at h; exact ⟨(Prod.mk.inj h).1.symm, List.map_eq_nil_iff.1 (Prod.mk.inj h).2.symm⟩
    | some l => rw [e] at h; exact absurd (Prod.mk.inj h).1.symm hn
  · exact ⟨(Prod.mk.inj h).1.symm, List.map_eq_nil_iff.1 (Prod.mk.inj h).2.symm⟩

set_option maxRecDepth 100000 in
set_option maxHeartbeats 8000000 in
theorem MarkupBack_any (s : ByteArray) (v : Value) (L : List Pt) (w : World) (hT : Tabs w) (hsl : Sl w 2 encPt v L) (hws : ∀ x ∈ L, Sl w 1 encT x.2.1 x.2.2) :
    Calls Tryd.prog 4 #[.string s, v] w fun e w' => e = .returned (.bool true) ∧ Below w.heap.size w w' := by
  obtain ⟨p, cap, rfl, hmx⟩ := hsl.shape
  unfold maxLen at hmx
  have n1e : ∀ l : List ByteArray, ∀ x ∈ l, (encT x).length = 1 ∧ ∀ u ∈ encT x, u.oneCell' = true := fun l x _ => ⟨rfl, fun u hu => by obtain rfl := List.mem_singleton.1 hu; rfl⟩
  obtain ⟨i0, hi, hz0, hz1, hz2⟩ := info_parts Tryd.infoS
  have cW := hid (wakes_any w hT)
  have cF := hid (FairP_any _ L w hsl hws)
  go_enter Tryd.func4, Tryd.ntmps4
  by_cases h240 : (240 : Int) < s.size
  · go_wp2_with (fail)
    refine cW.out.mono ?_
    rintro e w1 ⟨rfl, b1⟩
    go_wp2_with (fail)
    go_ret
    exact ⟨rfl, b1⟩
  · go_wp2_with (fail)
    refine cF.out.mono ?_
    rintro e w1 ⟨⟨fb, rfl, hfb⟩, rfl⟩
    cases fb
    · go_wp2_with (fail)
      refine cW.out.mono ?_
      rintro e w1 ⟨rfl, b1⟩
      go_wp2_with (fail)
      go_ret
      exact ⟨rfl, b1⟩
    · obtain ⟨g1, g2, g3, g4⟩ := fair_sizes (hfb rfl)
      have cS := hid (Source_any _ L _ hsl hws g1 g2 g3 g4 hT)
      clear cW cF hfb
      go_wp2_with (fail)
      refine cS.out.mono ?_
      rintro e w2 ⟨x, n, rfl, hx, b2⟩
      clear cS
      by_cases hn : n = 0
      · subst hn
        obtain ⟨hg, hx2, hpx⟩ := back_law hx
        have cP := hid (Parse_any x w2 (hT.below b2) (by omega))
        clear hx
        go_wp2_with (fail)
        refine cP.out.mono ?_
        rintro e w3 ⟨v3, L3, n3, rfl, hp3, o3, s3, b3⟩
        obtain ⟨rfl, hL3⟩ := Prod.mk.inj (hpx.symm.trans hp3)
        obtain ⟨p3, q3, rfl, -, -⟩ := owns_shape o3
        have z3 : Sl w3 2 encPt (.slice p3 L3.length q3) L3 := sl_of_owns (fun _ _ => rfl) o3
        have B3 := b2.trans (b3.mono b2.size)
        have cE := hid (Parts_eq w3 _ _ L3 L z3 ((Kept.of_below B3 0).sl hsl) s3 (fun x hx => (Kept.of_below B3 0).sl (hws x hx)) hL3.symm)
        clear o3 hp3 hpx hL3 cP
        go_wp2_with (fail)
        refine cE.out.mono ?_
        rintro e w4 ⟨rfl, b4⟩
        have B4 := B3.trans (b4.mono B3.size)
        have cG := hid (Good_any _ L w4 ((Kept.of_below B4 0).sl hsl) (fun x hx => (Kept.of_below B4 0).sl (hws x hx)) g1 (hT.below B4))
        rw [hg] at cG
        clear hg cE z3 s3
        go_wp2_with (fail)
        refine cG.out.mono ?_
        rintro e w5 ⟨rfl, b5⟩
        have B5 := B4.trans (b5.mono B4.size)
        clear cG
        have cP := hid (Parse_any s w5 (hT.below B5) (by omega))
        go_wp2_with (fail)
        refine cP.out.mono ?_
        rintro e wp ⟨vp, M, n9, rfl, hp, op, sp, bp⟩
        obtain ⟨pp, qp, rfl, -, -⟩ := owns_shape op
        have zp : Sl wp 2 encPt (.slice pp M.length qp) M := sl_of_owns (fun _ _ => rfl) op
        have Bp := B5.trans (bp.mono B5.size)
        have hM9 : M.length ≤ 241 := by
          have := parseR_len s.data.toList
          rw [hp] at this; simpa using this
        clear op cP
        by_cases hm : n9 = 0
        · subst hm
          obtain ⟨hh, hl9⟩ := have_law hp
          replace hh := hid hh
          clear hp
          go_wp2_with (fail)
          go_loopw [11, 13, 78, 83, 88] (fun ov i _ _ _ wr => ∃ k : Nat, k ≤ M.length ∧ i = .int .i64 k ∧ (∃ x, ov = x ∧ wr.ownsRow wp.heap.size 9 1 x (haveB (M.take k)).length ((haveB (M.take k)).flatMap encT)) ∧ Below wp.heap.size wp wr) (fun _ i _ _ _ _ => M.length - (RowKit.intOf i).toNat)
          case atStart => exact ⟨0, Nat.zero_le _, rfl, ⟨_, rfl, World.ownsRow_nil _ _ _ _⟩, Below.refl _ _⟩
          case round =>
            obtain ⟨k, hk, rfl, ⟨x0, rfl, o0⟩, hB⟩ := hrel
            by_cases hkl : k < M.length
            · have hkI : (k : Int) < (M.length : Int) := by omega
              obtain ⟨mb, mo, cap2, he, h1, h2, hc⟩ := zp.open (by rintro rfl; simp at hkl)
              simp only [Value.slice.injEq] at he
              obtain ⟨rfl, -, rfl⟩ := he
              have ra := hc k M[k] (List.getElem?_eq_getElem hkl)
              have r0p : wp.cell? ⟨mb, mo + k * 2, none⟩ = some (.int .i64 M[k].1) := ra 0 _ rfl
              have r1p : wp.cell? ⟨mb, mo + k * 2 + 1, none⟩ = some M[k].2.1 := ra 1 _ rfl
              have r0 := (Kept.of_below hB 0).cell r0p
              have sw := sp M[k] (List.getElem_mem _)
              obtain ⟨pw, cw, ew, -⟩ := sw.shape
              rw [ew] at r1p sw
              have htk := haveB_take hkl
              have hl1 := haveB_le M (k + 1)
              have hl2 := haveB_le M k
              rw [htk, List.length_append, List.length_append] at hl1
              clear hc ra ew r0p
              replace htk := hid htk
              generalize M[k].2.2 = ws at *
              generalize M[k].1 = kd at *
              replace r1p := hid r1p
              obtain ⟨H, hH⟩ : ∃ H, haveB (M.take k) = H := ⟨_, rfl⟩
              rw [hH] at o0 hl1 hl2 htk
              obtain ⟨px, qx, rfl, -, -⟩ := owns_shape o0
              replace hH := hid hH
              by_cases k2 : kd = 2
              · subst k2
                have o1 := o0.alloc (.cells #[.string ⟨#[61]⟩] 9)
                have sl1 : Sl (wr.alloc (.cells #[.string ⟨#[61]⟩] 9)) 1 encT (.slice (some ⟨wr.heap.size, 0, none⟩) 1 1) [⟨#[61]⟩] := sl_of_block (l := [(⟨#[61]⟩ : ByteArray)]) (World.alloc_heap_new wr _) rfl (fun _ _ => rfl) (Nat.le_refl 1) (by decide)
                have hB1 := hB.alloc hB.size (.cells #[.string ⟨#[61]⟩] 9)
                go_wp2_with (at_builtin; go_must (first
                  | (refine wpList_append_sl rfl _ _ 37 rfl wp.heap.size 9 i0 (.string ⟨#[]⟩) 1 16 Tryd.underlying37 hi hz0 hz1 hz2 rfl (by decide) _ _ _ rfl own2 encT _ ws rfl sw2 (n1e ws) (by unfold maxLen; (try simp only [List.length_cons, List.length_nil]); omega) (by (try simp only [List.length_cons, List.length_nil]); omega) hB2.size ?_
                     intro v3 V3 own3 grow3 _)
                  | (refine wpList_append_sl rfl _ _ 37 rfl wp.heap.size 9 i0 (.string ⟨#[]⟩) 1 16 Tryd.underlying37 hi hz0 hz1 hz2 rfl (by decide) _ _ _ rfl o1 encT _ [⟨#[61]⟩] rfl sl1 (n1e [⟨#[61]⟩]) (by unfold maxLen; (try simp only [List.length_cons, List.length_nil]); omega) (by (try simp only [List.length_cons, List.length_nil]); omega) hB1.size ?_
                     intro v2 V2 own2 grow2 _
                     rw [show [(⟨#[61]⟩ : ByteArray)].length = 1 from rfl] at own2
                     have hB2 := hB1.grown grow2 hB1.size (fun _ e => own_base o1 e)
                     have r12 := (Kept.of_below hB2 0).cell r1p.out
                     have sw2 := (Kept.of_below hB2 0).sl sw)))
                have hB3 := hB2.grown grow3 hB2.size (fun _ e => own_base own2 e)
                have own4 : V3.ownsRow wp.heap.size 9 1 v3 (haveB (M.take (k + 1))).length ((haveB (M.take (k + 1))).flatMap encT) := by
                  rw [htk.out, show markB 2 = [⟨#[61]⟩] from rfl, ← List.append_assoc, List.length_append, List.length_append, List.flatMap_append, List.flatMap_append]
                  exact own3
                refine ⟨⟨k + 1, by omega, by go_num, ⟨_, rfl, own4⟩, hB3⟩, by simp [RowKit.intOf]; omega⟩
              · by_cases k3 : kd = 3
                · subst k3
                  have o1 := o0.alloc (.cells #[.string ⟨#[45]⟩] 9)
                  have sl1 : Sl (wr.alloc (.cells #[.string ⟨#[45]⟩] 9)) 1 encT (.slice (some ⟨wr.heap.size, 0, none⟩) 1 1) [⟨#[45]⟩] := sl_of_block (l := [(⟨#[45]⟩ : ByteArray)]) (World.alloc_heap_new wr _) rfl (fun _ _ => rfl) (Nat.le_refl 1) (by decide)
                  have hB1 := hB.alloc hB.size (.cells #[.string ⟨#[45]⟩] 9)
                  go_wp2_with (at_builtin; go_must (first
                    | (refine wpList_append_sl rfl _ _ 37 rfl wp.heap.size 9 i0 (.string ⟨#[]⟩) 1 16 Tryd.underlying37 hi hz0 hz1 hz2 rfl (by decide) _ _ _ rfl own2 encT _ ws rfl sw2 (n1e ws) (by unfold maxLen; (try simp only [List.length_cons, List.length_nil]); omega) (by (try simp only [List.length_cons, List.length_nil]); omega) hB2.size ?_
                       intro v3 V3 own3 grow3 _)
                    | (refine wpList_append_sl rfl _ _ 37 rfl wp.heap.size 9 i0 (.string ⟨#[]⟩) 1 16 Tryd.underlying37 hi hz0 hz1 hz2 rfl (by decide) _ _ _ rfl o1 encT _ [⟨#[45]⟩] rfl sl1 (n1e [⟨#[45]⟩]) (by unfold maxLen; (try simp only [List.length_cons, List.length_nil]); omega) (by (try simp only [List.length_cons, List.length_nil]); omega) hB1.size ?_
                       intro v2 V2 own2 grow2 _
                       rw [show [(⟨#[45]⟩ : ByteArray)].length = 1 from rfl] at own2
                       have hB2 := hB1.grown grow2 hB1.size (fun _ e => own_base o1 e)
                       have r12 := (Kept.of_below hB2 0).cell r1p.out
                       have sw2 := (Kept.of_below hB2 0).sl sw)))
                  have hB3 := hB2.grown grow3 hB2.size (fun _ e => own_base own2 e)
                  have own4 : V3.ownsRow wp.heap.size 9 1 v3 (haveB (M.take (k + 1))).length ((haveB (M.take (k + 1))).flatMap encT) := by
                    rw [htk.out, show markB 3 = [⟨#[45]⟩] from rfl, ← List.append_assoc, List.length_append, List.length_append, List.flatMap_append, List.flatMap_append]
                    exact own3
                  refine ⟨⟨k + 1, by omega, by go_num, ⟨_, rfl, own4⟩, hB3⟩, by simp [RowKit.intOf]; omega⟩
                · by_cases k4 : kd = 4
                  · subst k4
                    have o1 := o0.alloc (.cells #[.string ⟨#[45, 45, 45]⟩] 9)
                    have sl1 : Sl (wr.alloc (.cells #[.string ⟨#[45, 45, 45]⟩] 9)) 1 encT (.slice (some ⟨wr.heap.size, 0, none⟩) 1 1) [⟨#[45, 45, 45]⟩] := sl_of_block (l := [(⟨#[45, 45, 45]⟩ : ByteArray)]) (World.alloc_heap_new wr _) rfl (fun _ _ => rfl) (Nat.le_refl 1) (by decide)
                    have hB1 := hB.alloc hB.size (.cells #[.string ⟨#[45, 45, 45]⟩] 9)
                    go_wp2_with (at_builtin; go_must (first
                      | (refine wpList_append_sl rfl _ _ 37 rfl wp.heap.size 9 i0 (.string ⟨#[]⟩) 1 16 Tryd.underlying37 hi hz0 hz1 hz2 rfl (by decide) _ _ _ rfl own2 encT _ ws rfl sw2 (n1e ws) (by unfold maxLen; (try simp only [List.length_cons, List.length_nil]); omega) (by (try simp only [List.length_cons, List.length_nil]); omega) hB2.size ?_
                         intro v3 V3 own3 grow3 _)
                      | (refine wpList_append_sl rfl _ _ 37 rfl wp.heap.size 9 i0 (.string ⟨#[]⟩) 1 16 Tryd.underlying37 hi hz0 hz1 hz2 rfl (by decide) _ _ _ rfl o1 encT _ [⟨#[45, 45, 45]⟩] rfl sl1 (n1e [⟨#[45, 45, 45]⟩]) (by unfold maxLen; (try simp only [List.length_cons, List.length_nil]); omega) (by (try simp only [List.length_cons, List.length_nil]); omega) hB1.size ?_
                         intro v2 V2 own2 grow2 _
                         rw [show [(⟨#[45, 45, 45]⟩ : ByteArray)].length = 1 from rfl] at own2
                         have hB2 := hB1.grown grow2 hB1.size (fun _ e => own_base o1 e)
                         have r12 := (Kept.of_below hB2 0).cell r1p.out
                         have sw2 := (Kept.of_below hB2 0).sl sw)))
                    have hB3 := hB2.grown grow3 hB2.size (fun _ e => own_base own2 e)
                    have own4 : V3.ownsRow wp.heap.size 9 1 v3 (haveB (M.take (k + 1))).length ((haveB (M.take (k + 1))).flatMap encT) := by
                      rw [htk.out, show markB 4 = [⟨#[45, 45, 45]⟩] from rfl, ← List.append_assoc, List.length_append, List.length_append, List.flatMap_append, List.flatMap_append]
                      exact own3
                    refine ⟨⟨k + 1, by omega, by go_num, ⟨_, rfl, own4⟩, hB3⟩, by simp [RowKit.intOf]; omega⟩
                  · have k2b : (kd == 2) = false := by simpa using k2
                    have k3b : (kd == 3) = false := by simpa using k3
                    have k4b : (kd == 4) = false := by simpa using k4
                    have hmk : markB kd = [] := by unfold markB markOf; rw [if_neg k2, if_neg k3, if_neg k4]; rfl
                    have r12 := (Kept.of_below hB 0).cell r1p.out
                    have sw2 := (Kept.of_below hB 0).sl sw
                    replace hmk := hid hmk
                    replace k2 := hid k2
                    replace k3 := hid k3
                    replace k4 := hid k4
                    go_wp2_with (at_builtin; go_must (first
                      | (refine wpList_append_sl rfl _ _ 37 rfl wp.heap.size 9 i0 (.string ⟨#[]⟩) 1 16 Tryd.underlying37 hi hz0 hz1 hz2 rfl (by decide) _ _ _ rfl o0 encT _ ws rfl sw2 (n1e ws) (by unfold maxLen; (try simp only [List.length_cons, List.length_nil]); omega) (by (try simp only [List.length_cons, List.length_nil]); omega) hB.size ?_
                         intro v3 V3 own3 grow3 _)))
                    have hB3 := hB.grown grow3 hB.size (fun _ e => own_base o0 e)
                    have own4 : V3.ownsRow wp.heap.size 9 1 v3 (haveB (M.take (k + 1))).length ((haveB (M.take (k + 1))).flatMap encT) := by
                      rw [htk.out, hmk.out, List.nil_append, List.length_append, List.flatMap_append]
                      exact own3
                    refine ⟨⟨k + 1, by omega, by go_num, ⟨_, rfl, own4⟩, hB3⟩, by simp [RowKit.intOf]; omega⟩
            · obtain rfl : k = M.length := by omega
              rw [List.take_length] at o0
              obtain ⟨wh, rfl⟩ : ∃ V : World, V = wr := ⟨_, rfl⟩
              obtain ⟨px, qx, rfl, -, -⟩ := owns_shape o0
              have zh : Sl wh 1 encT (.slice px (haveB M).length qx) (haveB M) := sl_of_owns (fun _ _ => rfl) o0
              have Bh := Bp.trans (hB.mono Bp.size)
              clear o0
              go_wp2_with (fail)
              go_loopw [12, 14, 15] (fun ov fv i wr => ∃ (k f : Nat) (P : List ByteArray), k ≤ s.size + 1 ∧ f ≤ s.size + 1 ∧ i = .int .i64 k ∧ fv = .int .i64 f ∧ CutInv 10 s.data.toList f k (P.map fun x => x.data.toList) ∧ (∃ x, ov = x ∧ wr.ownsRow wh.heap.size 9 1 x (P.flatMap wdsB).length ((P.flatMap wdsB).flatMap encT)) ∧ Below wh.heap.size wh wr) (fun _ _ i _ => s.size + 1 - (RowKit.intOf i).toNat)
              case atStart => exact ⟨0, 0, [], Nat.zero_le _, Nat.zero_le _, rfl, rfl, CutInv.start _ _, ⟨_, rfl, World.ownsRow_nil _ _ _ _⟩, Below.refl _ _⟩
              case round =>
                obtain ⟨k, f, P, hk, hf, rfl, rfl, hI, ⟨x0, rfl, o0⟩, hB⟩ := hrel
                obtain ⟨py, qy, rfl, -, -⟩ := owns_shape o0
                have hIw := hI.words
                rw [size8] at hIw
                by_cases hkl : k ≤ s.size
                · have hkI : (k : Int) ≤ (s.size : Int) := by omega
                  have hfk : f ≤ k := hI.from_le (by rw [size8]; exact hkl)
                  have hfI : (f : Int) ≤ (k : Int) := by omega
                  replace hI := hid hI
                  by_cases hke : k = s.size
                  · have hkb : ((k : Int) == (s.size : Int)) = true := by simp [hke]
                    have hI2 : Hid (CutInv 10 s.data.toList (k + 1) (k + 1) ((P ++ [s.extract f k]).map fun x => x.data.toList)) := by
                      have h8 : s.data.toList.length = k := by rw [size8, hke]
                      have h := CutInv.last (l := s.data.toList) (by rw [h8]; exact hI.out) (k + 1)
                      rw [h8] at h
                      refine hid ?_
                      rw [List.map_append, List.map_cons, List.map_nil, ex8]
                      exact h
                    replace hke := hid hke
                    have cR := hid (rWords_any (s.extract f k) wr (by rw [ByteArray.size_extract]; omega))
                    have hI2w := hI2.out.words
                    rw [List.flatMap_append, List.length_append, show [s.extract f k].flatMap wdsB = wdsB (s.extract f k) by simp, size8] at hI2w
                    have hfm : (P ++ [s.extract f k]).flatMap wdsB = P.flatMap wdsB ++ wdsB (s.extract f k) := by simp
                    replace hfm := hid hfm
                    generalize wdsB (s.extract f k) = ws at *
                    generalize P.flatMap wdsB = H at *
                    go_wp2_with (fail)
                    refine cR.out.mono ?_
                    rintro e W1 ⟨v1, rfl, o1, b1⟩
                    obtain ⟨p1, q1, rfl, -, -⟩ := owns_shape o1
                    have o0a := (Kept.of_below b1 0).owns o0
                    have z1 : Sl W1 1 encT (.slice p1 ws.length q1) ws := sl_of_owns (fun _ _ => rfl) o1
                    have hB1 := hB.trans (b1.mono hB.size)
                    go_wp2_with (at_builtin; go_must (first
                      | (refine wpList_append_sl rfl _ _ 37 rfl wh.heap.size 9 i0 (.string ⟨#[]⟩) 1 16 Tryd.underlying37 hi hz0 hz1 hz2 rfl (by decide) _ _ _ rfl o0a encT _ ws rfl z1 (n1e ws) (by unfold maxLen; (try simp only [List.length_cons, List.length_nil]); omega) (by (try simp only [List.length_cons, List.length_nil]); omega) hB1.size ?_
                         intro v3 V3 own3 grow3 _)))
                    have hB3 := hB1.grown grow3 hB1.size (fun _ e => own_base o0a e)
                    rw [← List.length_append, ← List.flatMap_append, ← hfm.out] at own3
                    refine ⟨⟨k + 1, k + 1, P ++ [s.extract f k], by omega, by omega, by go_num, by go_num, hI2.out, ⟨_, rfl, own3⟩, hB3⟩, by simp [RowKit.intOf]; omega⟩
                  · have hkb : ((k : Int) == (s.size : Int)) = false := by simp only [beq_eq_false_iff_ne, ne_eq]; omega
                    have hkl2 : k < s.size := by omega
                    have hkI2 : (k : Int) < (s.size : Int) := by omega
                    have h8 : k < s.data.toList.length := by rw [size8]; exact hkl2
                    have hg : s.data.toList[k] = s[k] := rfl
                    by_cases hc : s[k] = 10
                    · have hcb : ((s[k].toNat : Int) == 10) = true := by rw [hc]; rfl
                      have hI2 : Hid (CutInv 10 s.data.toList (k + 1) (k + 1) ((P ++ [s.extract f k]).map fun x => x.data.toList)) := by
                        have h := hI.out.hit h8 (by rw [hg, hc])
                        refine hid ?_
                        rw [List.map_append, List.map_cons, List.map_nil, ex8]
                        exact h
                      replace hc := hid hc
                      clear hg
                      have cR := hid (rWords_any (s.extract f k) wr (by rw [ByteArray.size_extract]; omega))
                      have hI2w := hI2.out.words
                      rw [List.flatMap_append, List.length_append, show [s.extract f k].flatMap wdsB = wdsB (s.extract f k) by simp, size8] at hI2w
                      have hfm : (P ++ [s.extract f k]).flatMap wdsB = P.flatMap wdsB ++ wdsB (s.extract f k) := by simp
                      replace hfm := hid hfm
                      generalize wdsB (s.extract f k) = ws at *
                      generalize P.flatMap wdsB = H at *
                      go_wp2_with (fail)
                      refine cR.out.mono ?_
                      rintro e W1 ⟨v1, rfl, o1, b1⟩
                      obtain ⟨p1, q1, rfl, -, -⟩ := owns_shape o1
                      have o0a := (Kept.of_below b1 0).owns o0
                      have z1 : Sl W1 1 encT (.slice p1 ws.length q1) ws := sl_of_owns (fun _ _ => rfl) o1
                      have hB1 := hB.trans (b1.mono hB.size)
                      go_wp2_with (at_builtin; go_must (first
                        | (refine wpList_append_sl rfl _ _ 37 rfl wh.heap.size 9 i0 (.string ⟨#[]⟩) 1 16 Tryd.underlying37 hi hz0 hz1 hz2 rfl (by decide) _ _ _ rfl o0a encT _ ws rfl z1 (n1e ws) (by unfold maxLen; (try simp only [List.length_cons, List.length_nil]); omega) (by (try simp only [List.length_cons, List.length_nil]); omega) hB1.size ?_
                           intro v3 V3 own3 grow3 _)))
                      have hB3 := hB1.grown grow3 hB1.size (fun _ e => own_base o0a e)
                      rw [← List.length_append, ← List.flatMap_append, ← hfm.out] at own3
                      refine ⟨⟨k + 1, k + 1, P ++ [s.extract f k], by omega, by omega, by go_num, by go_num, hI2.out, ⟨_, rfl, own3⟩, hB3⟩, by simp [RowKit.intOf]; omega⟩
                    · have hcb : ((s[k].toNat : Int) == 10) = false := by
                        simp only [beq_eq_false_iff_ne, ne_eq]
                        intro h
                        exact hc (UInt8.toNat_inj.1 (by show s[k].toNat = 10; omega))
                      have hI2 : Hid (CutInv 10 s.data.toList f (k + 1) (P.map fun x => x.data.toList)) := hid (hI.out.miss h8 (by rw [hg]; exact hc))
                      replace hc := hid hc
                      clear hg
                      go_wp2_with (fail)
                      refine ⟨⟨k + 1, f, P, by omega, by omega, by go_num, rfl, hI2.out, ⟨_, rfl, o0⟩, hB⟩, by simp [RowKit.intOf]; omega⟩
                · have hP := pieces_of (hI.done (by rw [size8]; omega))
                  subst hP
                  rw [← hh.out] at o0
                  have zw : Sl wr 1 encT (.slice py (haveB M).length qy) (haveB M) := sl_of_owns (fun _ _ => rfl) o0
                  have cT := hid (Texts_eq wr _ _ (haveB M) ((Kept.of_below hB 0).sl zh) zw)
                  rw [← hh.out]
                  have Bf := Bh.trans (hB.mono Bh.size)
                  clear o0 hI
                  go_wp2_with (fail)
                  refine cT.out.mono ?_
                  rintro e wt ⟨rfl, nd, rfl⟩
                  have Bt := Bf.drewN nd
                  have cW := hid (wakes_any _ (hT.below Bt))
                  go_wp2_with (fail)
                  refine cW.out.mono ?_
                  rintro e wz ⟨rfl, bz⟩
                  go_wp2_with (fail)
                  go_ret
                  exact ⟨rfl, Bt.trans (bz.mono Bt.size)⟩
        · obtain ⟨rfl, rfl⟩ := parse_bad hp (by omega) hm
          clear hp hm
          have cW := hid (wakes_any wp (hT.below Bp))
          go_wp2_with (fail)
          refine cW.out.mono ?_
          rintro e wz ⟨rfl, bz⟩
          go_wp2_with (fail)
          go_ret
          exact ⟨rfl, Bp.trans (bz.mono Bp.size)⟩
      · have hnb : (n == 0) = false := by simpa using hn
        clear hx
        have cP := hid (Parse_any s w2 (hT.below b2) (by omega))
        go_wp2_with (fail)
        refine cP.out.mono ?_
        rintro e wp ⟨vp, M, n9, rfl, hp, op, sp, bp⟩
        obtain ⟨pp, qp, rfl, -, -⟩ := owns_shape op
        have zp : Sl wp 2 encPt (.slice pp M.length qp) M := sl_of_owns (fun _ _ => rfl) op
        have Bp := b2.trans (bp.mono b2.size)
        have hM9 : M.length ≤ 241 := by
          have := parseR_len s.data.toList
          rw [hp] at this; simpa using this
        clear op cP
        by_cases hm : n9 = 0
        · subst hm
          obtain ⟨hh, hl9⟩ := have_law hp
          replace hh := hid hh
          clear hp
          go_wp2_with (fail)
          go_loopw [11, 13, 78, 83, 88] (fun ov i _ _ _ wr => ∃ k : Nat, k ≤ M.length ∧ i = .int .i64 k ∧ (∃ x, ov = x ∧ wr.ownsRow wp.heap.size 9 1 x (haveB (M.take k)).length ((haveB (M.take k)).flatMap encT)) ∧ Below wp.heap.size wp wr) (fun _ i _ _ _ _ => M.length - (RowKit.intOf i).toNat)
          case atStart => exact ⟨0, Nat.zero_le _, rfl, ⟨_, rfl, World.ownsRow_nil _ _ _ _⟩, Below.refl _ _⟩
          case round =>
            obtain ⟨k, hk, rfl, ⟨x0, rfl, o0⟩, hB⟩ := hrel
            by_cases hkl : k < M.length
            · have hkI : (k : Int) < (M.length : Int) := by omega
              obtain ⟨mb, mo, cap2, he, h1, h2, hc⟩ := zp.open (by rintro rfl; simp at hkl)
              simp only [Value.slice.injEq] at he
              obtain ⟨rfl, -, rfl⟩ := he
              have ra := hc k M[k] (List.getElem?_eq_getElem hkl)
              have r0p : wp.cell? ⟨mb, mo + k * 2, none⟩ = some (.int .i64 M[k].1) := ra 0 _ rfl
              have r1p : wp.cell? ⟨mb, mo + k * 2 + 1, none⟩ = some M[k].2.1 := ra 1 _ rfl
              have r0 := (Kept.of_below hB 0).cell r0p
              have sw := sp M[k] (List.getElem_mem _)
              obtain ⟨pw, cw, ew, -⟩ := sw.shape
              rw [ew] at r1p sw
              have htk := haveB_take hkl
              have hl1 := haveB_le M (k + 1)
              have hl2 := haveB_le M k
              rw [htk, List.length_append, List.length_append] at hl1
              clear hc ra ew r0p
              replace htk := hid htk
              generalize M[k].2.2 = ws at *
              generalize M[k].1 = kd at *
              replace r1p := hid r1p
              obtain ⟨H, hH⟩ : ∃ H, haveB (M.take k) = H := ⟨_, rfl⟩
              rw [hH] at o0 hl1 hl2 htk
              obtain ⟨px, qx, rfl, -, -⟩ := owns_shape o0
              replace hH := hid hH
              by_cases k2 : kd = 2
              · subst k2
                have o1 := o0.alloc (.cells #[.string ⟨#[61]⟩] 9)
                have sl1 : Sl (wr.alloc (.cells #[.string ⟨#[61]⟩] 9)) 1 encT (.slice (some ⟨wr.heap.size, 0, none⟩) 1 1) [⟨#[61]⟩] := sl_of_block (l := [(⟨#[61]⟩ : ByteArray)]) (World.alloc_heap_new wr _) rfl (fun _ _ => rfl) (Nat.le_refl 1) (by decide)
                have hB1 := hB.alloc hB.size (.cells #[.string ⟨#[61]⟩] 9)
                go_wp2_with (at_builtin; go_must (first
                  | (refine wpList_append_sl rfl _ _ 37 rfl wp.heap.size 9 i0 (.string ⟨#[]⟩) 1 16 Tryd.underlying37 hi hz0 hz1 hz2 rfl (by decide) _ _ _ rfl own2 encT _ ws rfl sw2 (n1e ws) (by unfold maxLen; (try simp only [List.length_cons, List.length_nil]); omega) (by (try simp only [List.length_cons, List.length_nil]); omega) hB2.size ?_
                     intro v3 V3 own3 grow3 _)
                  | (refine wpList_append_sl rfl _ _ 37 rfl wp.heap.size 9 i0 (.string ⟨#[]⟩) 1 16 Tryd.underlying37 hi hz0 hz1 hz2 rfl (by decide) _ _ _ rfl o1 encT _ [⟨#[61]⟩] rfl sl1 (n1e [⟨#[61]⟩]) (by unfold maxLen; (try simp only [List.length_cons, List.length_nil]); omega) (by (try simp only [List.length_cons, List.length_nil]); omega) hB1.size ?_
                     intro v2 V2 own2 grow2 _
                     rw [show [(⟨#[61]⟩ : ByteArray)].length = 1 from rfl] at own2
                     have hB2 := hB1.grown grow2 hB1.size (fun _ e => own_base o1 e)
                     have r12 := (Kept.of_below hB2 0).cell r1p.out
                     have sw2 := (Kept.of_below hB2 0).sl sw)))
                have hB3 := hB2.grown grow3 hB2.size (fun _ e => own_base own2 e)
                have own4 : V3.ownsRow wp.heap.size 9 1 v3 (haveB (M.take (k + 1))).length ((haveB (M.take (k + 1))).flatMap encT) := by
                  rw [htk.out, show markB 2 = [⟨#[61]⟩] from rfl, ← List.append_assoc, List.length_append, List.length_append, List.flatMap_append, List.flatMap_append]
                  exact own3
                refine ⟨⟨k + 1, by omega, by go_num, ⟨_, rfl, own4⟩, hB3⟩, by simp [RowKit.intOf]; omega⟩
              · by_cases k3 : kd = 3
                · subst k3
                  have o1 := o0.alloc (.cells #[.string ⟨#[45]⟩] 9)
                  have sl1 : Sl (wr.alloc (.cells #[.string ⟨#[45]⟩] 9)) 1 encT (.slice (some ⟨wr.heap.size, 0, none⟩) 1 1) [⟨#[45]⟩] := sl_of_block (l := [(⟨#[45]⟩ : ByteArray)]) (World.alloc_heap_new wr _) rfl (fun _ _ => rfl) (Nat.le_refl 1) (by decide)
                  have hB1 := hB.alloc hB.size (.cells #[.string ⟨#[45]⟩] 9)
                  go_wp2_with (at_builtin; go_must (first
                    | (refine wpList_append_sl rfl _ _ 37 rfl wp.heap.size 9 i0 (.string ⟨#[]⟩) 1 16 Tryd.underlying37 hi hz0 hz1 hz2 rfl (by decide) _ _ _ rfl own2 encT _ ws rfl sw2 (n1e ws) (by unfold maxLen; (try simp only [List.length_cons, List.length_nil]); omega) (by (try simp only [List.length_cons, List.length_nil]); omega) hB2.size ?_
                       intro v3 V3 own3 grow3 _)
                    | (refine wpList_append_sl rfl _ _ 37 rfl wp.heap.size 9 i0 (.string ⟨#[]⟩) 1 16 Tryd.underlying37 hi hz0 hz1 hz2 rfl (by decide) _ _ _ rfl o1 encT _ [⟨#[45]⟩] rfl sl1 (n1e [⟨#[45]⟩]) (by unfold maxLen; (try simp only [List.length_cons, List.length_nil]); omega) (by (try simp only [List.length_cons, List.length_nil]); omega) hB1.size ?_
                       intro v2 V2 own2 grow2 _
                       rw [show [(⟨#[45]⟩ : ByteArray)].length = 1 from rfl] at own2
                       have hB2 := hB1.grown grow2 hB1.size (fun _ e => own_base o1 e)
                       have r12 := (Kept.of_below hB2 0).cell r1p.out
                       have sw2 := (Kept.of_below hB2 0).sl sw)))
                  have hB3 := hB2.grown grow3 hB2.size (fun _ e => own_base own2 e)
                  have own4 : V3.ownsRow wp.heap.size 9 1 v3 (haveB (M.take (k + 1))).length ((haveB (M.take (k + 1))).flatMap encT) := by
                    rw [htk.out, show markB 3 = [⟨#[45]⟩] from rfl, ← List.append_assoc, List.length_append, List.length_append, List.flatMap_append, List.flatMap_append]
                    exact own3
                  refine ⟨⟨k + 1, by omega, by go_num, ⟨_, rfl, own4⟩, hB3⟩, by simp [RowKit.intOf]; omega⟩
                · by_cases k4 : kd = 4
                  · subst k4
                    have o1 := o0.alloc (.cells #[.string ⟨#[45, 45, 45]⟩] 9)
                    have sl1 : Sl (wr.alloc (.cells #[.string ⟨#[45, 45, 45]⟩] 9)) 1 encT (.slice (some ⟨wr.heap.size, 0, none⟩) 1 1) [⟨#[45, 45, 45]⟩] := sl_of_block (l := [(⟨#[45, 45, 45]⟩ : ByteArray)]) (World.alloc_heap_new wr _) rfl (fun _ _ => rfl) (Nat.le_refl 1) (by decide)
                    have hB1 := hB.alloc hB.size (.cells #[.string ⟨#[45, 45, 45]⟩] 9)
                    go_wp2_with (at_builtin; go_must (first
                      | (refine wpList_append_sl rfl _ _ 37 rfl wp.heap.size 9 i0 (.string ⟨#[]⟩) 1 16 Tryd.underlying37 hi hz0 hz1 hz2 rfl (by decide) _ _ _ rfl own2 encT _ ws rfl sw2 (n1e ws) (by unfold maxLen; (try simp only [List.length_cons, List.length_nil]); omega) (by (try simp only [List.length_cons, List.length_nil]); omega) hB2.size ?_
                         intro v3 V3 own3 grow3 _)
                      | (refine wpList_append_sl rfl _ _ 37 rfl wp.heap.size 9 i0 (.string ⟨#[]⟩) 1 16 Tryd.underlying37 hi hz0 hz1 hz2 rfl (by decide) _ _ _ rfl o1 encT _ [⟨#[45, 45, 45]⟩] rfl sl1 (n1e [⟨#[45, 45, 45]⟩]) (by unfold maxLen; (try simp only [List.length_cons, List.length_nil]); omega) (by (try simp only [List.length_cons, List.length_nil]); omega) hB1.size ?_
                         intro v2 V2 own2 grow2 _
                         rw [show [(⟨#[45, 45, 45]⟩ : ByteArray)].length = 1 from rfl] at own2
                         have hB2 := hB1.grown grow2 hB1.size (fun _ e => own_base o1 e)
                         have r12 := (Kept.of_below hB2 0).cell r1p.out
                         have sw2 := (Kept.of_below hB2 0).sl sw)))
                    have hB3 := hB2.grown grow3 hB2.size (fun _ e => own_base own2 e)
                    have own4 : V3.ownsRow wp.heap.size 9 1 v3 (haveB (M.take (k + 1))).length ((haveB (M.take (k + 1))).flatMap encT) := by
                      rw [htk.out, show markB 4 = [⟨#[45, 45, 45]⟩] from rfl, ← List.append_assoc, List.length_append, List.length_append, List.flatMap_append, List.flatMap_append]
                      exact own3
                    refine ⟨⟨k + 1, by omega, by go_num, ⟨_, rfl, own4⟩, hB3⟩, by simp [RowKit.intOf]; omega⟩
                  · have k2b : (kd == 2) = false := by simpa using k2
                    have k3b : (kd == 3) = false := by simpa using k3
                    have k4b : (kd == 4) = false := by simpa using k4
                    have hmk : markB kd = [] := by unfold markB markOf; rw [if_neg k2, if_neg k3, if_neg k4]; rfl
                    have r12 := (Kept.of_below hB 0).cell r1p.out
                    have sw2 := (Kept.of_below hB 0).sl sw
                    replace hmk := hid hmk
                    replace k2 := hid k2
                    replace k3 := hid k3
                    replace k4 := hid k4
                    go_wp2_with (at_builtin; go_must (first
                      | (refine wpList_append_sl rfl _ _ 37 rfl wp.heap.size 9 i0 (.string ⟨#[]⟩) 1 16 Tryd.underlying37 hi hz0 hz1 hz2 rfl (by decide) _ _ _ rfl o0 encT _ ws rfl sw2 (n1e ws) (by unfold maxLen; (try simp only [List.length_cons, List.length_nil]); omega) (by (try simp only [List.length_cons, List.length_nil]); omega) hB.size ?_
                         intro v3 V3 own3 grow3 _)))
                    have hB3 := hB.grown grow3 hB.size (fun _ e => own_base o0 e)
                    have own4 : V3.ownsRow wp.heap.size 9 1 v3 (haveB (M.take (k + 1))).length ((haveB (M.take (k + 1))).flatMap encT) := by
                      rw [htk.out, hmk.out, List.nil_append, List.length_append, List.flatMap_append]
                      exact own3
                    refine ⟨⟨k + 1, by omega, by go_num, ⟨_, rfl, own4⟩, hB3⟩, by simp [RowKit.intOf]; omega⟩
            · obtain rfl : k = M.length := by omega
              rw [List.take_length] at o0
              obtain ⟨wh, rfl⟩ : ∃ V : World, V = wr := ⟨_, rfl⟩
              obtain ⟨px, qx, rfl, -, -⟩ := owns_shape o0
              have zh : Sl wh 1 encT (.slice px (haveB M).length qx) (haveB M) := sl_of_owns (fun _ _ => rfl) o0
              have Bh := Bp.trans (hB.mono Bp.size)
              clear o0
              go_wp2_with (fail)
              go_loopw [12, 14, 15] (fun ov fv i wr => ∃ (k f : Nat) (P : List ByteArray), k ≤ s.size + 1 ∧ f ≤ s.size + 1 ∧ i = .int .i64 k ∧ fv = .int .i64 f ∧ CutInv 10 s.data.toList f k (P.map fun x => x.data.toList) ∧ (∃ x, ov = x ∧ wr.ownsRow wh.heap.size 9 1 x (P.flatMap wdsB).length ((P.flatMap wdsB).flatMap encT)) ∧ Below wh.heap.size wh wr) (fun _ _ i _ => s.size + 1 - (RowKit.intOf i).toNat)
              case atStart => exact ⟨0, 0, [], Nat.zero_le _, Nat.zero_le _, rfl, rfl, CutInv.start _ _, ⟨_, rfl, World.ownsRow_nil _ _ _ _⟩, Below.refl _ _⟩
              case round =>
                obtain ⟨k, f, P, hk, hf, rfl, rfl, hI, ⟨x0, rfl, o0⟩, hB⟩ := hrel
                obtain ⟨py, qy, rfl, -, -⟩ := owns_shape o0
                have hIw := hI.words
                rw [size8] at hIw
                by_cases hkl : k ≤ s.size
                · have hkI : (k : Int) ≤ (s.size : Int) := by omega
                  have hfk : f ≤ k := hI.from_le (by rw [size8]; exact hkl)
                  have hfI : (f : Int) ≤ (k : Int) := by omega
                  replace hI := hid hI
                  by_cases hke : k = s.size
                  · have hkb : ((k : Int) == (s.size : Int)) = true := by simp [hke]
                    have hI2 : Hid (CutInv 10 s.data.toList (k + 1) (k + 1) ((P ++ [s.extract f k]).map fun x => x.data.toList)) := by
                      have h8 : s.data.toList.length = k := by rw [size8, hke]
                      have h := CutInv.last (l := s.data.toList) (by rw [h8]; exact hI.out) (k + 1)
                      rw [h8] at h
                      refine hid ?_
                      rw [List.map_append, List.map_cons, List.map_nil, ex8]
                      exact h
                    replace hke := hid hke
                    have cR := hid (rWords_any (s.extract f k) wr (by rw [ByteArray.size_extract]; omega))
                    have hI2w := hI2.out.words
                    rw [List.flatMap_append, List.length_append, show [s.extract f k].flatMap wdsB = wdsB (s.extract f k) by simp, size8] at hI2w
                    have hfm : (P ++ [s.extract f k]).flatMap wdsB = P.flatMap wdsB ++ wdsB (s.extract f k) := by simp
                    replace hfm := hid hfm
                    generalize wdsB (s.extract f k) = ws at *
                    generalize P.flatMap wdsB = H at *
                    go_wp2_with (fail)
                    refine cR.out.mono ?_
                    rintro e W1 ⟨v1, rfl, o1, b1⟩
                    obtain ⟨p1, q1, rfl, -, -⟩ := owns_shape o1
                    have o0a := (Kept.of_below b1 0).owns o0
                    have z1 : Sl W1 1 encT (.slice p1 ws.length q1) ws := sl_of_owns (fun _ _ => rfl) o1
                    have hB1 := hB.trans (b1.mono hB.size)
                    go_wp2_with (at_builtin; go_must (first
                      | (refine wpList_append_sl rfl _ _ 37 rfl wh.heap.size 9 i0 (.string ⟨#[]⟩) 1 16 Tryd.underlying37 hi hz0 hz1 hz2 rfl (by decide) _ _ _ rfl o0a encT _ ws rfl z1 (n1e ws) (by unfold maxLen; (try simp only [List.length_cons, List.length_nil]); omega) (by (try simp only [List.length_cons, List.length_nil]); omega) hB1.size ?_
                         intro v3 V3 own3 grow3 _)))
                    have hB3 := hB1.grown grow3 hB1.size (fun _ e => own_base o0a e)
                    rw [← List.length_append, ← List.flatMap_append, ← hfm.out] at own3
                    refine ⟨⟨k + 1, k + 1, P ++ [s.extract f k], by omega, by omega, by go_num, by go_num, hI2.out, ⟨_, rfl, own3⟩, hB3⟩, by simp [RowKit.intOf]; omega⟩
                  · have hkb : ((k : Int) == (s.size : Int)) = false := by simp only [beq_eq_false_iff_ne, ne_eq]; omega
                    have hkl2 : k < s.size := by omega
                    have hkI2 : (k : Int) < (s.size : Int) := by omega
                    have h8 : k < s.data.toList.length := by rw [size8]; exact hkl2
                    have hg : s.data.toList[k] = s[k] := rfl
                    by_cases hc : s[k] = 10
                    · have hcb : ((s[k].toNat : Int) == 10) = true := by rw [hc]; rfl
                      have hI2 : Hid (CutInv 10 s.data.toList (k + 1) (k + 1) ((P ++ [s.extract f k]).map fun x => x.data.toList)) := by
                        have h := hI.out.hit h8 (by rw [hg, hc])
                        refine hid ?_
                        rw [List.map_append, List.map_cons, List.map_nil, ex8]
                        exact h
                      replace hc := hid hc
                      clear hg
                      have cR := hid (rWords_any (s.extract f k) wr (by rw [ByteArray.size_extract]; omega))
                      have hI2w := hI2.out.words
                      rw [List.flatMap_append, List.length_append, show [s.extract f k].flatMap wdsB = wdsB (s.extract f k) by simp, size8] at hI2w
                      have hfm : (P ++ [s.extract f k]).flatMap wdsB = P.flatMap wdsB ++ wdsB (s.extract f k) := by simp
                      replace hfm := hid hfm
                      generalize wdsB (s.extract f k) = ws at *
                      generalize P.flatMap wdsB = H at *
                      go_wp2_with (fail)
                      refine cR.out.mono ?_
                      rintro e W1 ⟨v1, rfl, o1, b1⟩
                      obtain ⟨p1, q1, rfl, -, -⟩ := owns_shape o1
                      have o0a := (Kept.of_below b1 0).owns o0
                      have z1 : Sl W1 1 encT (.slice p1 ws.length q1) ws := sl_of_owns (fun _ _ => rfl) o1
                      have hB1 := hB.trans (b1.mono hB.size)
                      go_wp2_with (at_builtin; go_must (first
                        | (refine wpList_append_sl rfl _ _ 37 rfl wh.heap.size 9 i0 (.string ⟨#[]⟩) 1 16 Tryd.underlying37 hi hz0 hz1 hz2 rfl (by decide) _ _ _ rfl o0a encT _ ws rfl z1 (n1e ws) (by unfold maxLen; (try simp only [List.length_cons, List.length_nil]); omega) (by (try simp only [List.length_cons, List.length_nil]); omega) hB1.size ?_
                           intro v3 V3 own3 grow3 _)))
                      have hB3 := hB1.grown grow3 hB1.size (fun _ e => own_base o0a e)
                      rw [← List.length_append, ← List.flatMap_append, ← hfm.out] at own3
                      refine ⟨⟨k + 1, k + 1, P ++ [s.extract f k], by omega, by omega, by go_num, by go_num, hI2.out, ⟨_, rfl, own3⟩, hB3⟩, by simp [RowKit.intOf]; omega⟩
                    · have hcb : ((s[k].toNat : Int) == 10) = false := by
                        simp only [beq_eq_false_iff_ne, ne_eq]
                        intro h
                        exact hc (UInt8.toNat_inj.1 (by show s[k].toNat = 10; omega))
                      have hI2 : Hid (CutInv 10 s.data.toList f (k + 1) (P.map fun x => x.data.toList)) := hid (hI.out.miss h8 (by rw [hg]; exact hc))
                      replace hc := hid hc
                      clear hg
                      go_wp2_with (fail)
                      refine ⟨⟨k + 1, f, P, by omega, by omega, by go_num, rfl, hI2.out, ⟨_, rfl, o0⟩, hB⟩, by simp [RowKit.intOf]; omega⟩
                · have hP := pieces_of (hI.done (by rw [size8]; omega))
                  subst hP
                  rw [← hh.out] at o0
                  have zw : Sl wr 1 encT (.slice py (haveB M).length qy) (haveB M) := sl_of_owns (fun _ _ => rfl) o0
                  have cT := hid (Texts_eq wr _ _ (haveB M) ((Kept.of_below hB 0).sl zh) zw)
                  rw [← hh.out]
                  have Bf := Bh.trans (hB.mono Bh.size)
                  clear o0 hI
                  go_wp2_with (fail)
                  refine cT.out.mono ?_
                  rintro e wt ⟨rfl, nd, rfl⟩
                  have Bt := Bf.drewN nd
                  have cW := hid (wakes_any _ (hT.below Bt))
                  go_wp2_with (fail)
                  refine cW.out.mono ?_
                  rintro e wz ⟨rfl, bz⟩
                  go_wp2_with (fail)
                  go_ret
                  exact ⟨rfl, Bt.trans (bz.mono Bt.size)⟩
        · obtain ⟨rfl, rfl⟩ := parse_bad hp (by omega) hm
          clear hp hm
          have cW := hid (wakes_any wp (hT.below Bp))
          go_wp2_with (fail)
          refine cW.out.mono ?_
          rintro e wz ⟨rfl, bz⟩
          go_wp2_with (fail)
          go_ret
          exact ⟨rfl, Bp.trans (bz.mono Bp.size)⟩
end Go.Proofs.YtgbfekimflnaiaaDoor
