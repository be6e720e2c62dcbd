/- The walk of the reference's Signs. The walk of hyphen.small. The walk of the reference's Text. -/
import Derived.Test.YtempicociampoaaGreatDoorJ6
import Derived.Test.YtempicociampoaaGreatDoorJ2
import Derived.Deep.RegionHeld3
import Derived.Deep.DeepCutAuto
import Derived.Deep.CutBlock
import Derived.Test.YtempicociampoaaGreatDoorJ10
import Derived.Lib.ConvBytes
import Derived.Lib.SmallJoins
import Derived.Test.YtempicociampoaaGreatDoorJ5
namespace Go.Proofs.YtempicociampoaaGreatDoor
open Go.RowKit Go.Lib

theorem Bytes_any (v : Int) (w : World) (z1 : -9223372036854775808 ≤ v) (z2 : v ≤ 9223372036854775807) :
  Calls Tryz.prog 90 #[.int .i64 v] w fun e w' => ∃ x, e = .returned x ∧ Sl w' 1 encB x (rbytes v) ∧ Below w.heap.size w w' := by
 by_cases h : okv v
 ·rw [show rbytes v = encodeRuneZ v from if_pos h]; exact Bytes_yes v w h
 ·refine (Bytes_no v w z1 z2 h).mono fun e w' ⟨he, hw⟩ => ⟨_, he, ?_, hw ▸ Below.refl _ w⟩
  rw [show rbytes v = [] from if_neg h]; exact .inl ⟨rfl, rfl⟩

theorem conv_sl {w : World} {x : Value} {l : List Int} (h : Sl w 1 encB x l) : (convert 66 9 x).run Tryz.prog w = .ok (.string (strOfNums l)) w := by
 rcases h with ⟨rfl, rfl⟩ | ⟨⟨b, o, sp⟩, cap, rfl, h1, h2, h3, h4⟩
 ·exact run_convert_bytes_nil w _ 5 (by kernel_rfl) (by kernel_rfl) 0 0 _ (by kernel_rfl)
 ·by_cases hl : l = []
  ·subst hl
   rw [run_convert_bytes_string w _ _ 5 _ _ _ (by kernel_rfl) (by kernel_rfl) (by kernel_rfl)]
   have := run_bytesToString (P := Tryz.prog) w ⟨b, o, sp⟩ 0 cap [] (by simp [loadCells, loadCellsFrom, Sem.run_pure])
   exact this
  ·obtain rfl : sp = none := h3 hl
   refine run_convert_bytes_arg w _ 5 (by kernel_rfl) (by kernel_rfl) b o _ cap l rfl ?_ _ (by kernel_rfl)
   intro i hi
   have h5 := h4 i l[i] (List.getElem?_eq_getElem hi)
   have h6 := rangeAt_one h5
   simpa [List.getD_eq_getElem?_getD, List.getElem?_eq_getElem hi] using h6

theorem own_base {W : World} {base : Nat} {e : TypeId} {size : Nat} {v : Value} {n : Nat} {xs : List Value} (h : W.ownsRow base e size v n xs) {j : Nat} (hj : v.ownBlock = some j) : base ≤ j := by
 rcases h.2 with ⟨rfl, _⟩ | ⟨g, cap, cur, rfl, hg, _⟩
 ·simp [Value.ownBlock] at hj
 ·simp [Value.ownBlock] at hj; omega

/-- the test of a round: is what is read the text's own? -/
theorem test_eq {s : ByteArray} {pre : List Int} {rest : List UInt8} {k : Nat} (hsp : s.data.toList = txt pre ++ rest) (hr : rest ≠ []) (hre : refn (rest.getD 0 0).toNat = k)
  (hk1 : 1 ≤ k) (hk : k ≤ rest.length) : (!(strOfNums (rbytes (refv rest (k - 1)))).toList == (s.extract (txt pre).length ((txt pre).length + k)).toList) = true ↔ ¬ refGood rest := by
 have e1 : (s.extract (txt pre).length ((txt pre).length + k)).toList = rest.take k := by
  rw [Lib.toList_data, ByteArray.data_extract, Array.toList_extract, hsp]
  simp [List.extract]
 have e2 : (strOfNums (rbytes (refv rest (k - 1)))).toList = if okv (refv rest (k - 1)) then encodeRune (refv rest (k - 1)) else [] := by
  rw [Lib.toList_data, strOfNums_data]
  unfold rbytes
  split <;> rfl
 rw [e1, e2]
 unfold refGood
 rw [hre]
 have hne : rest.take k ≠ [] := by
  intro h
  rcases List.take_eq_nil_iff.1 h with h | h
  ·omega
  ·exact hr h
 by_cases ho : okv (refv rest (k - 1))
 ·by_cases he : encodeRune (refv rest (k - 1)) = rest.take k
  ·simp [ho, he, hk]
  ·simp [ho, he]
 ·simp [ho]; exact ⟨by omega, hr⟩

theorem len_txt : ∀ {ys : List Int}, (∀ y ∈ ys, okv y) → ys.length ≤ (txt ys).length
 | [], _ => Nat.le_refl _
 | y :: ys, h => by
  have h1 := len_txt (fun z hz => h z (by simp [hz]) : ∀ z ∈ ys, okv z)
  have h2 := (enc_len (h y (by simp))).1
  rw [txt_cons, List.length_append, List.length_cons]
  omega

theorem set2 {w : World} {b : Nat} {x y a c : Value} {t : TypeId} (h : w.heap[b]? = some (.cells #[a, c] t (0, 0))) :
  ((w.setCell ⟨b, 0, none⟩ x).setCell ⟨b, 1, none⟩ y).heap[b]? = some (.cells #[x, y] t (0, 0)) := by
 obtain ⟨hb, he⟩ := Array.getElem?_eq_some_iff.1 h
 simp [World.setCell, hb, Array.getElem_modify, he]

theorem below2 {w : World} {n b : Nat} {x y : Value} (h : n ≤ b) : Below n w ((w.setCell ⟨b, 0, none⟩ x).setCell ⟨b, 1, none⟩ y) :=
 ((Below.refl n w).setCell (p := ⟨b, 0, none⟩) h x).setCell (p := ⟨b, 1, none⟩) h y

theorem out2 {R : Ending → World → Prop} {a : Act} {w : World} {b : Nat} {x y : Value}
  (hp : a.tmps.getD 2 undef = .pointer (some ⟨b, 0, none⟩)) (hd : a.defers = [])
  (hg : w.heap[b]? = some (.cells #[x, y] 111 (0, 0)))
  (hR : R (.returned (.agg #[x, y])) w) : bodyPost Tryz.prog Tryz.f61 R .ret a w :=
 by
 have hk : (Tryz.prog.underlying 111).any TypeDesc.isRow = true := by kernel_rfl
 obtain ⟨d, hu, hr⟩ : ∃ d, Tryz.prog.underlying 111 = some d ∧ TypeDesc.isRow d = true := by
  cases h : Tryz.prog.underlying 111 with
  | none => rw [h] at hk; cases hk
  | some d => rw [h] at hk; exact ⟨d, rfl, hk⟩
 exact bodyPost_ret (results_cell_row (P := Tryz.prog) (fn := Tryz.f61) rfl _ _ b _ _ _ d hp hg hu (by cases d <;> first | rfl | cases hr) (by kernel_rfl)) hd hR

set_option maxRecDepth 100000 in
set_option maxHeartbeats 2000000 in
theorem RSigns_any (s : ByteArray) (w : World) (hs : s.size ≤ 2000000) :
  Calls Tryz.prog 61 #[.string s] w fun e w' => ∃ v, e = .returned (.agg #[v, .bool (validD s.data.toList)]) ∧ Sl w' 1 encI v (sgn s.data.toList) ∧ Below w.heap.size w w' := by
 obtain ⟨i0, hi, hz0, hz1, hz2⟩ := info_parts Tryz.infoI
 go_enter Tryz.func61, Tryz.ntmps61
 go_wp2
 have hbx : (w.alloc (.cells #[.slice none 0 0, .bool false] 111)).heap[w.heap.size]? = some (.cells #[.slice none 0 0, .bool false] 111 (0, 0)) := World.alloc_heap_new w _
 go_loopw [3, 4, 5, 6, 7, 8] (fun o i _ _ _ _ wr => ∃ (pre : List Int) (rest : List UInt8) (v : Value), (∀ x ∈ pre, okv x) ∧ s.data.toList = txt pre ++ rest ∧ i = .int .i64 (txt pre).length ∧ o = v ∧
   wr.ownsRow (w.heap.size + 1) 3 1 v pre.length (pre.flatMap encI) ∧ wr.heap[w.heap.size]? = some (.cells #[.slice none 0 0, .bool false] 111 (0, 0)) ∧ Below w.heap.size w wr) (fun _ i _ _ _ _ _ => s.size - (RowKit.intOf i).toNat)
 case atStart => exact ⟨[], s.data.toList, _, by simp, rfl, rfl, rfl, World.ownsRow_nil _ _ _ _, hbx, (Below.refl _ _).alloc (Nat.le_refl _) _⟩
 case round =>
  obtain ⟨pre, rest, v, hpre, hsp, rfl, rfl, hrow, hbox, hB⟩ := hrel
  obtain ⟨pv, cv, rfl, hn1, hn2⟩ := owns_shape hrow
  have f0 : wr.cell? ⟨w.heap.size, 0, none⟩ = some (.slice none 0 0) := by simp [World.cell?, hbox]
  have f1 : wr.cell? ⟨w.heap.size, 1, none⟩ = some (.bool false) := by simp [World.cell?, hbox]
  have g0 : ∀ o, wr.frozen? ⟨w.heap.size, o, none⟩ = false := fun o => by simp [World.frozen?, hbox]
  have g1 := g0 0
  have g2 := g0 1
  clear g0
  have hsz : s.size = (txt pre).length + rest.length := by
   have := congrArg List.length hsp
   rw [List.length_append] at this
   exact this
  by_cases hr : rest = []
  ·subst hr
   have hlt : ¬ (txt pre).length < s.size := by rw [hsz]; simp
   have hv : validD s.data.toList = true := (valid_iff _).2 ⟨pre, hpre, by simpa using hsp⟩
   have hg : sgn s.data.toList = pre := sgn_of hpre (by simpa using hsp)
   have hsl := sl_of_owns (enc := encI) (fun _ _ => rfl) hrow
   have Hv := hid hv
   have Hg := hid hg
   clear hv hg hsp hsz
   go_wp2
   refine out2 (b := w.heap.size) (x := .slice pv pre.length cv) (y := .bool true) rfl rfl (set2 hbox) ⟨_, by rw [Hid.out Hv], ?_, hB.trans (below2 (Nat.le_refl _))⟩
   rw [Hid.out Hg]
   exact sl_of_owns (fun _ _ => rfl) (ownsRow_setCell_below (ownsRow_setCell_below hrow (by simp) _) (by simp) _)
  ·have hlt : (txt pre).length < s.size := by
    have := List.length_pos_iff.2 hr
    omega
   have hbd := refv_bd rest
   have hc := refn_cases (rest.getD 0 0).toNat
   have hget : s[(txt pre).length]'hlt = rest.getD 0 0 := by
    have h1 : (txt pre ++ rest).getD (txt pre).length 0 = rest.getD 0 0 := by
     simp [List.getD_eq_getElem?_getD, List.getElem?_append_right]
    rw [← h1, ← hsp, List.getD_eq_getElem?_getD, List.getElem?_eq_getElem (by exact hlt)]
    rfl
   obtain ⟨b, hb⟩ : ∃ b : UInt8, rest.getD 0 0 = b := ⟨_, rfl⟩
   rw [hb] at hget hc
   have hb1 := b.toNat_lt
   have Hsp := hid hsp
   have Hsz := hid hsz
   have Hpre := hid hpre
   have Hb := hid hbd
   have Hbb := hid hb
   have Hc := hid hc
   clear hbd hsp hsz hpre hb hc
   go_upto_block 2 with (fail)
   go_cut [6, 7] (fun a c wx => a = .int .i64 (refn b.toNat) ∧ c = .int .i64 (refv0 b.toNat) ∧ wx = wr)
   case first =>
    rcases Hid.out Hc with ⟨c1, c2, c3⟩ | ⟨c1, c2, c3, c4⟩ | ⟨c1, c2, c3, c4, c5⟩ | ⟨c1, c2, c3, c4, c5⟩
    ·have C := hid c1; have D := hid c3; clear c1 c3
     go_wp2
     go_meet
     exact ⟨by rw [Hid.out C]; rfl, by rw [Hid.out D], rfl⟩
    ·have C := hid c1; have D := hid c4; clear c1 c4
     go_wp2
     go_meet
     exact ⟨by rw [Hid.out C]; rfl, by rw [Hid.out D], rfl⟩
    ·have C := hid c1; have D := hid c5; clear c1 c5
     go_wp2
     go_meet
     exact ⟨by rw [Hid.out C]; rfl, by rw [Hid.out D], rfl⟩
    ·have C := hid c1; have D := hid c5; clear c1 c5
     go_wp2
     go_meet
     exact ⟨by rw [Hid.out C]; rfl, by rw [Hid.out D], rfl⟩
   case rest =>
    obtain ⟨rfl, rfl, rfl⟩ := hcut
    have hv0 : refv0 b.toNat = refv rest 0 := by rw [← Hid.out Hbb]; rfl
    rw [hv0]
    have hN : 1 ≤ refn b.toNat ∧ refn b.toNat ≤ 4 := by rcases Hid.out Hc with c | c | c | c <;> omega
    have hgood : refGood rest → (txt pre).length + refn b.toNat ≤ s.size := by
     intro hg
     have := hg.1
     rw [Hid.out Hbb] at this
     rw [Hid.out Hsz]; omega
    have Hgd := hid hgood
    have hre : refn (rest.getD 0 0).toNat = refn b.toNat := by rw [Hid.out Hbb]
    have Hre := hid hre
    obtain ⟨N, hNe⟩ : ∃ N : Nat, refn b.toNat = N := ⟨_, rfl⟩
    rw [hNe] at hN Hgd Hre ⊢
    clear hNe hv0 Hc hgood hre
    obtain ⟨hN1, hN2⟩ := hN
    by_cases hn : (txt pre).length + N ≤ s.size
    ·have hn' : ¬ (s.size : Int) < (txt pre).length + N := by omega
     go_wp2
     go_loopw [7, 8] (fun a c wx => ∃ k : Nat, 1 ≤ k ∧ k ≤ N ∧ a = .int .i64 (refv rest (k - 1)) ∧ c = .int .i64 k ∧ wx = wc) (fun _ c _ => N - (RowKit.intOf c).toNat)
     case atStart => exact ⟨1, Nat.le_refl _, hN1, rfl, rfl, rfl⟩
     case round =>
      obtain ⟨k, hk1, hk2, rfl, rfl, rfl⟩ := hrel
      by_cases hkn : k < N
      ·have hlt2 : (txt pre).length + k < s.size := by omega
       have hget2 : s[(txt pre).length + k]'hlt2 = rest.getD k 0 := by
        have h1 : (txt pre ++ rest).getD ((txt pre).length + k) 0 = rest.getD k 0 := by
         simp [List.getD_eq_getElem?_getD, List.getElem?_append_right]
        rw [← h1, ← Hid.out Hsp, List.getD_eq_getElem?_getD, List.getElem?_eq_getElem (by exact hlt2)]
        rfl
       have hnx : refv rest k = refv rest (k - 1) * 64 + ((rest.getD k 0).toNat : Int) % 64 := by
        obtain ⟨j, rfl⟩ : ∃ j, k = j + 1 := ⟨k - 1, by omega⟩
        rfl
       have hvb := Hid.out Hb (k - 1) (by omega)
       have hvk := Hid.out Hb k (by omega)
       obtain ⟨V, hV⟩ : ∃ V, refv rest (k - 1) = V := ⟨_, rfl⟩
       obtain ⟨c2, hc2⟩ : ∃ c : UInt8, rest.getD k 0 = c := ⟨_, rfl⟩
       have Hvb := hvb
       rw [hc2] at hget2 hnx
       rw [hV] at hnx hvb ⊢
       have hcb := c2.toNat_lt
       have Hnx := hid hnx
       have hvv : 0 ≤ V ∧ V < 67108864 := by
        refine ⟨hvb.1, Int.lt_of_lt_of_le hvb.2 ?_⟩
        have : k - 1 = 0 ∨ k - 1 = 1 ∨ k - 1 = 2 := by omega
        rcases this with h | h | h <;> rw [h] <;> decide
       have hand := and63 c2.toNat (by omega) (by omega)
       have HV := hid hV
       clear hnx hvb hvk Hvb hV hc2
       go_wp2
       refine ⟨⟨k + 1, by omega, by omega, ?_, rfl, trivial⟩, ?_⟩
       ·rw [Nat.add_sub_cancel, Hid.out Hnx]
       ·simp only [RowKit.intOf]; omega
      ·obtain rfl : k = N := by omega
       have hvb := Hid.out Hb (k - 1) (by omega)
       have hvv : 0 ≤ refv rest (k - 1) ∧ refv rest (k - 1) < 67108864 := by
        refine ⟨hvb.1, Int.lt_of_lt_of_le hvb.2 ?_⟩
        have : k - 1 = 0 ∨ k - 1 = 1 ∨ k - 1 = 2 ∨ k - 1 = 3 := by omega
        rcases this with h | h | h | h <;> rw [h] <;> decide
       have htst := test_eq (Hid.out Hsp) hr (Hid.out Hre) hk1 (by rw [Hid.out Hsz] at hn; omega)
       obtain ⟨V, hV⟩ : ∃ V, refv rest (k - 1) = V := ⟨_, rfl⟩
       have hi6 : ((((txt pre).length : Int) + (k : Int)).toNat) = (txt pre).length + k := by omega
       rw [hV] at htst
       obtain ⟨d, hd⟩ : ∃ d : Bool, (!(strOfNums (rbytes V)).toList == (s.extract (txt pre).length ((txt pre).length + k)).toList) = d := ⟨_, rfl⟩
       rw [hd] at htst
       have Htst := hid hd
       have Hd := hid htst
       clear htst hd
       rw [hV] at hvv ⊢
       have HV := hid hV
       have Hvv := hid hvv
       have hcall := fun w => Bytes_any V w (by omega) (by omega)
       clear hvb hV hvv
       have hi1 : (0 : Int) ≤ ((txt pre).length : Int) := by omega
       have hi2 : ((txt pre).length : Int) ≤ ((txt pre).length : Int) + (k : Int) := by omega
       have hi3 : ((txt pre).length : Int) + (k : Int) ≤ (s.size : Int) := by omega
       have hi4 : (0 : Int) ≤ ((txt pre).length : Int) + (k : Int) := by omega
       have hi5 : IntKind.i64.wrap (((txt pre).length : Int) + (k : Int)) = ((txt pre).length : Int) + (k : Int) := by rw [IntKind.wrap_i64]; omega
       have hslc : ∀ w, (Instr.slice 9 (.string s) (some (.int .i64 (txt pre).length)) (some (.int .i64 ((txt pre).length + k))) none).run Tryz.prog w = .ok (.string (s.extract ((txt pre).length : Int).toNat (((txt pre).length : Int) + (k : Int)).toNat)) w :=
        fun w => run_slice_string w _ s _ _ _ _ (by kernel_rfl) hi1 hi2 hi3
       go_upto_region 18 with (fail)
       go_cut [64] (fun c wx => c = .bool d ∧ Below wr.heap.size wr wx)
       case first =>
        go_region_with (go_at_call 90; refine (hcall _).mono ?_; rintro e w' ⟨x, rfl, hsl, hbel⟩; have hcv := conv_sl hsl)
        all_goals go_wp2_with (fail)
        all_goals go_meet
        all_goals exact ⟨by rw [Hid.out Htst], (Below.refl _ wr).drew.trans hbel⟩
       case rest =>
        obtain ⟨rfl, hbel⟩ := hcut
        have hbl := hbel.block w.heap.size (Array.getElem?_eq_some_iff.1 hbox).1
        have hB2 := hB.trans (hbel.mono hB.size)
        have hrow2 := (Kept.of_below hbel 0).owns hrow
        cases d with
        | true =>
         have hbad : validD s.data.toList = false := by
          rw [Hid.out Hsp]
          exact valid_app (Hid.out Hpre) (ref_bad hr ((Hid.out Hd).1 rfl))
         have hsg : sgn s.data.toList = [] := sgn_no hbad
         have Hv := hid hbad
         have Hg := hid hsg
         have hbox2 := hbl.trans hbox
         have f0 : wc.cell? ⟨w.heap.size, 0, none⟩ = some (.slice none 0 0) := by simp [World.cell?, hbox2]
         have f1 : wc.cell? ⟨w.heap.size, 1, none⟩ = some (.bool false) := by simp [World.cell?, hbox2]
         have g0 : ∀ o, wc.frozen? ⟨w.heap.size, o, none⟩ = false := fun o => by simp [World.frozen?, hbox2]
         have g1 := g0 0
         have g2 := g0 1
         clear hbad hsg g0 hcall
         go_wp2
         refine out2 (b := w.heap.size) (x := .slice none 0 0) (y := .bool false) rfl rfl (set2 hbox2) ⟨_, by rw [Hid.out Hv], ?_, hB2.trans (below2 (Nat.le_refl _))⟩
         rw [Hid.out Hg]
         exact .inl ⟨rfl, rfl⟩
        | false =>
         have hgood : refGood rest := by
          by_cases h : refGood rest
          ·exact h
          ·exact absurd ((Hid.out Hd).2 h) (by simp)
         clear hcall
         have hbox2 := hbl.trans hbox
         have Hgood := hid hgood
         have hpl := len_txt (Hid.out Hpre)
         clear hgood
         go_wp2_with (at_builtin; go_must (refine wpList_append_own _ rfl _ _ 50 rfl (w.heap.size + 1) 3 i0 (.int .i64 0) 1 8 Tryz.underlying50 hi hz0 hz1 hz2 rfl (by decide) _ _ _ rfl (hrow2.alloc _) ⟨wc.heap.size, 0, none⟩ 1 1 [.int .i64 V] rfl rfl (cell_one_new _ _ _) (by simp [Value.oneCell']) (by unfold maxLen; omega) (by omega) (by have := hB2.size; simp; omega) ?_; intro v' w1 hown' hgrow _))
         obtain ⟨q1, q2, q3⟩ := Hid.out Hgood
         rw [Hid.out Hre] at q1 q2 q3
         rw [Hid.out HV] at q2 q3
         have hkr : k ≤ rest.length := q1
         have hlen3 : (encodeRune V).length = k := by rw [q3, List.length_take]; omega
         have htx : (txt (pre ++ [V])).length = (txt pre).length + k := by
          rw [txt_append, List.length_append]
          have : txt [V] = encodeRune V := by simp [txt]
          rw [this, hlen3]
         refine ⟨⟨pre ++ [V], rest.drop k, _, ?_, ?_, ?_, rfl, ?_, ?_, ?_⟩, ?_⟩
         ·intro x hx
          rcases List.mem_append.1 hx with h | h
          ·exact Hid.out Hpre x h
          ·rw [List.mem_singleton.1 h]; exact q2
         ·rw [Hid.out Hsp, txt_append, List.append_assoc]
          have : txt [V] = encodeRune V := by simp [txt]
          rw [this, q3, List.take_append_drop]
         ·rw [htx]; simp
         ·rw [List.length_append, List.flatMap_append]
          simpa [encI] using hown'
         ·have hlt9 := (Array.getElem?_eq_some_iff.1 hbox2).1
          rw [hgrow.block w.heap.size (by simp; omega) (fun e => by have := own_base hrow2 e.symm; omega)]
          rw [← hbox2]; exact Below.heap_alloc _ _ _ hlt9
         ·exact (hB2.alloc hB2.size _).grown hgrow (by have := hB2.size; simp; omega) (fun j e => by have := own_base hrow2 e; omega)
         ·simp only [RowKit.intOf]; omega
    ·have hbad : validD s.data.toList = false := by
      rw [Hid.out Hsp]
      exact valid_app (Hid.out Hpre) (ref_bad hr fun h => hn (Hid.out Hgd h))
     have hsg : sgn s.data.toList = [] := sgn_no hbad
     have Hv := hid hbad
     have Hg := hid hsg
     have hn' : (s.size : Int) < (txt pre).length + N := by omega
     clear hbad hsg hn
     go_wp2
     refine out2 (b := w.heap.size) (x := .slice none 0 0) (y := .bool false) rfl rfl (set2 hbox) ⟨_, by rw [Hid.out Hv], ?_, hB.trans (below2 (Nat.le_refl _))⟩
     rw [Hid.out Hg]
     exact .inl ⟨rfl, rfl⟩
end Go.Proofs.YtempicociampoaaGreatDoor
namespace Go.Proofs.YtempicociampoaaGreatDoor
open Go.RowKit

theorem lower_byte : ∀ n : Nat, n < 256 → lower (n : Int) = ((lowB n.toUInt8).toNat : Int) := by decide +kernel
theorem letter_byte : ∀ n : Nat, n < 256 → letter (n : Int) = isLet n.toUInt8 := by decide +kernel

theorem Tryz.infoU8 : (Tryz.prog.info? 5).map (fun i => (i.zero, i.size, i.bytes)) = some (some (.int .u8 0), 1, 1) := by kernel_rfl

def smallOut (s : List UInt8) : Array Value := if s.all isLet = true then #[.string ⟨(s.map lowB).toArray⟩, .bool (decide (2 ≤ s.length) && decide (s.length ≤ 60))] else #[.string ⟨#[]⟩, .bool false]

set_option maxRecDepth 100000 in
set_option maxHeartbeats 2000000 in
theorem small_any (s : ByteArray) (w : World) (hs : s.size ≤ 2000000) :
  Calls Tryz.prog 126 #[.string s] w fun e w' => e = .returned (.tuple (smallOut s.data.toList)) ∧ Below w.heap.size w w' := by
 have hcv := Lib.run_convert_string_bytes (P := Tryz.prog) w 9 66 5 s Tryz.underlying9 Tryz.underlying66 Tryz.underlying5
 have hB1 := Go.Joins.below_bytesWorld w.heap.size w 5 s (Nat.le_refl _)
 have hcell := hid (fun j hj => Lib.bytesWorld_cell w 5 s j hj)
 have hsz := Lib.bytesWorld_size w 5 s
 generalize Lib.bytesWorld w 5 s = w1 at *
 have hlen : s.data.toList.length = s.size := by rw [Array.length_toList]; rfl
 go_enter Tryz.func126, Tryz.ntmps126
 obtain ⟨i0, hi, hz0, hz1, hz2⟩ := info_parts Tryz.infoU8
 go_wp2_with (fail)
 go_loopw [4, 10] (fun v i wr => ∃ k : Nat, k ≤ s.size ∧ i = .int .i64 k ∧ (∃ u, v = u ∧ wr.ownsRow w1.heap.size 5 1 u k ((s.data.toList.take k).map fun c => Value.int .u8 (lowB c).toNat)) ∧ (s.data.toList.take k).all isLet = true ∧ Below w1.heap.size w1 wr) (fun _ i _ => s.size - (RowKit.intOf i).toNat)
 case atStart => exact ⟨0, Nat.zero_le _, rfl, ⟨_, rfl, World.ownsRow_nil _ _ _ _⟩, rfl, Below.refl _ _⟩
 case round =>
  obtain ⟨k, hk, rfl, ⟨_, rfl, hrow⟩, hall, hB⟩ := hrel
  by_cases hkl : k < s.size
  ·have hkd : k < s.data.toList.length := by omega
   have hc0 := (hB.cell (p := ⟨w.heap.size, k, none⟩) (by simp only []; omega)).trans (hcell.out k hkl)
   have htk : s.data.toList.take (k + 1) = s.data.toList.take k ++ [s.data.toList[k]] := by rw [List.take_succ_eq_append_getElem hkd]
   have hgd : s.data.toList.getD k 0 = s.data.toList[k] := by rw [List.getD_eq_getElem?_getD, List.getElem?_eq_getElem hkd]; rfl
   rw [hgd] at hc0
   have Htk := hid htk
   clear htk hgd
   generalize s.data.toList[k] = c at *
   have hcn := c.toNat_lt
   have e1 : letter (c.toNat : Int) = isLet c := by rw [letter_byte c.toNat hcn]; simp
   have e2 : lower (c.toNat : Int) = ((lowB c).toNat : Int) := by rw [lower_byte c.toNat hcn]; simp
   have cL := fun w' => Letter_any (c.toNat : Int) w' (by omega) (by omega)
   have cW := fun w' => Lower_any (c.toNat : Int) w' (by omega) (by omega)
   rw [e1] at cL
   rw [e2] at cW
   have hl1 := (lowB c).toNat_lt
   clear e1 e2
   replace cL := hid cL
   replace cW := hid cW
   by_cases hlet : isLet c = true
   ·rw [hlet] at cL
    obtain ⟨pu, cu, rfl, hu1, hu2⟩ := owns_shape hrow
    unfold maxLen at hu2
    go_wp2_with (fail)
    refine (cL.out _).mono ?_
    rintro e w' ⟨rfl, rfl⟩
    go_wp2_with (fail)
    refine (cW.out _).mono ?_
    rintro e w' ⟨rfl, rfl⟩
    go_wp2_with (at_builtin; go_must (refine wpList_append_own _ rfl _ _ 66 rfl w1.heap.size 5 i0 (.int .u8 0) 1 1 Tryz.underlying66 hi hz0 hz1 hz2 rfl (by decide) _ _ _ rfl (hrow.alloc _) ⟨_, 0, none⟩ 1 1 [.int .u8 (lowB c).toNat] rfl rfl (cells_new _ _ _) (by simp [Value.oneCell']) (by unfold maxLen; omega) (by omega) (by have := hB.size; simp; omega) ?_; intro v' w2 hown' hgrow _))
    have hB1 := hB.alloc hB.size (.cells #[.int .u8 (lowB c).toNat] 5)
    refine ⟨⟨k + 1, by omega, by go_num, ⟨_, rfl, ?_⟩, ?_, hB1.grown hgrow hB1.size (fun j e => own_base hrow e)⟩, by simp [RowKit.intOf]; omega⟩
    ·rw [Htk.out]; simpa using hown'
    ·rw [Htk.out, List.all_append, hall]; simp [hlet]
   ·have hl0 : isLet c = false := by simpa using hlet
    rw [hl0] at cL
    have hout : smallOut s.data.toList = #[.string ⟨#[]⟩, .bool false] := by
     unfold smallOut
     rw [if_neg (fun h => by
      have h2 := List.all_eq_true.1 h c (by
       have h3 : c ∈ s.data.toList.take (k + 1) := by rw [Htk.out]; simp
       exact List.mem_of_mem_take h3)
      rw [hl0] at h2; cases h2)]
    go_wp2_with (fail)
    refine (cL.out _).mono ?_
    rintro e w' ⟨rfl, rfl⟩
    go_wp2
    go_ret2
    exact ⟨by rw [hout]; rfl, hB1.trans (hB.mono hB1.size)⟩
  ·obtain rfl : k = s.size := by omega
   rw [show s.data.toList.take s.size = s.data.toList from List.take_of_length_le (by omega)] at hrow hall
   obtain ⟨pu, cu, rfl, hu1, hu2⟩ := owns_shape hrow
   have hsl : Sl wr 1 encB (.slice pu s.size cu) (s.data.toList.map fun c => ((lowB c).toNat : Int)) := by
    refine sl_of_owns (e := 5) (base := w1.heap.size) (fun _ _ => rfl) ?_
    have e1 : ((s.data.toList.map fun c => ((lowB c).toNat : Int))).flatMap encB = s.data.toList.map fun c => Value.int .u8 (lowB c).toNat := by
     generalize s.data.toList = L
     induction L with
     | nil => rfl
     | cons a L ih => simp only [List.map_cons, List.flatMap_cons, ih]; rfl
    rw [e1, List.length_map, hlen]
    exact hrow
   have hcv2 := conv_sl hsl
   have estr : strOfNums (s.data.toList.map fun c => ((lowB c).toNat : Int)) = ⟨(s.data.toList.map lowB).toArray⟩ := by
    unfold strOfNums
    congr 2
    rw [List.map_map]
    exact List.map_congr_left fun c _ => by simp
   rw [estr] at hcv2
   have hout := hid (show smallOut s.data.toList = #[.string ⟨(s.data.toList.map lowB).toArray⟩, .bool (decide (2 ≤ s.size) && decide (s.size ≤ 60))] by
    unfold smallOut; rw [if_pos hall, hlen])
   unfold maxLen at hu2
   clear hrow hsl estr hall
   by_cases h1 : 2 ≤ s.size
   ·by_cases h2 : s.size ≤ 60
    ·go_wp2
     go_ret2
     refine ⟨?_, hB1.trans (hB.mono hB1.size)⟩
     rw [hout.out]; simp [h1, h2]; omega
    ·go_wp2
     go_ret2
     refine ⟨?_, hB1.trans (hB.mono hB1.size)⟩
     rw [hout.out]; simp [h1, h2]; omega
   ·go_wp2
    go_ret2
    refine ⟨?_, hB1.trans (hB.mono hB1.size)⟩
    rw [hout.out]; simp [h1]
end Go.Proofs.YtempicociampoaaGreatDoor
namespace Go.Proofs.YtempicociampoaaGreatDoor
open Go.RowKit Go.Shelf

theorem txt_le : ∀ {ys : List Int}, (∀ y ∈ ys, okv y) → (txt ys).length ≤ 4 * ys.length
 | [], _ => Nat.le_refl _
 | y :: ys, h => by
  have h1 := txt_le (fun z hz => h z (by simp [hz]) : ∀ z ∈ ys, okv z)
  have h2 := (enc_len (h y (by simp))).2
  rw [txt_cons, List.length_append, List.length_cons]
  omega
def nums (l : List Int) : List Int := l.flatMap Lib.encodeRuneZ
theorem nums_txt (l : List Int) : strOfNums (nums l) = ⟨(txt l).toArray⟩ := by
 have : ∀ l : List Int, (nums l).map (fun n => UInt8.ofNat n.toNat) = txt l := by
  intro l
  induction l with
  | nil => rfl
  | cons x l ih =>
   show (nums (x :: l)).map _ = txt (x :: l)
   rw [txt_cons, ← ih]
   simp [nums, Lib.encodeRune]
 unfold strOfNums
 rw [this]
theorem nums_len (l : List Int) : (nums l).length = (txt l).length := by
 rw [← strOfNums_size, nums_txt]; rfl
/-- what the reference's Text answers -/
def rtextOut (l : List Int) : Array Value := if ∀ x ∈ l, okv x then #[.string ⟨(txt l).toArray⟩, .bool true] else #[.string ⟨#[]⟩, .bool false]

set_option maxRecDepth 100000 in
set_option maxHeartbeats 2000000 in
theorem RText_any (v : Value) (l : List Int) (w : World) (hl : l.length ≤ 2000000) (hsl : Sl w 1 encI v l) (hr : ∀ x ∈ l, -9223372036854775808 ≤ x ∧ x ≤ 9223372036854775807) :
  Calls Tryz.prog 64 #[v] w fun e w' => e = .returned (.tuple (rtextOut l)) ∧ Below w.heap.size w w' := by
 obtain ⟨i0, hi, hz0, hz1, hz2⟩ := info_parts Tryz.infoU8
 obtain ⟨p, cap, rfl, hmx⟩ := hsl.shape
 go_enter Tryz.func64, Tryz.ntmps64
 go_wp2
 go_loopw [4, 5, 6] (fun b i _ wr => ∃ k : Nat, k ≤ l.length ∧ (∀ y ∈ l.take k, okv y) ∧ i = .int .i64 k ∧ wr.ownsRow w.heap.size 5 1 b (nums (l.take k)).length ((nums (l.take k)).flatMap encB) ∧ Below w.heap.size w wr) (fun _ i _ _ => l.length - (RowKit.intOf i).toNat)
 case atStart => exact ⟨0, Nat.zero_le _, by simp, rfl, World.ownsRow_nil _ _ _ _, Below.refl _ _⟩
 case round =>
  obtain ⟨k, hk, hok, rfl, hrow, hB⟩ := hrel
  obtain ⟨pv, cv, rfl, hn1, hn2⟩ := owns_shape hrow
  have hnl : (nums (l.take k)).length ≤ 8000000 := by
   have := txt_le hok
   rw [List.length_take] at this
   rw [nums_len]; omega
  by_cases hkl : k < l.length
  ·have hne : l ≠ [] := by intro h; rw [h] at hkl; simp at hkl
   obtain ⟨b, o, cap', he, h1, h2, h3⟩ := hsl.open hne
   cases he
   have hc0 := rangeAt_one (h3 k l[k] (List.getElem?_eq_getElem hkl))
   have hc : wr.cell? ⟨b, o + k, none⟩ = some (.int .i64 l[k]) := by
    have := (Kept.of_below hB 0).cell hc0
    simpa using this
   obtain ⟨x, hx⟩ : ∃ x, l[k] = x := ⟨_, rfl⟩
   have hxm : x ∈ l := by rw [← hx]; exact List.getElem_mem hkl
   have hxr := hr x hxm
   rw [hx] at hc
   have htk : l.take (k + 1) = l.take k ++ [x] := by rw [List.take_succ_eq_append_getElem hkl, hx]
   clear hx
   have hcall := Bytes_any x wr hxr.1 hxr.2
   have Hr := hid hr
   have Hok := hid hok
   have Htk := hid htk
   have Hsl := hid hsl
   obtain ⟨q, hq⟩ : ∃ q, nums (l.take k) = q := ⟨_, rfl⟩
   rw [hq] at hrow hn1 hnl ⊢
   have Hq := hid hq
   have Hxm := hid hxm
   clear hr hok htk hsl hq hxr h3 hxm
   go_wp2_with (fail)
   refine hcall.mono ?_
   rintro e w' ⟨y, rfl, hy, hbel⟩
   have hB2 := hB.trans (hbel.mono hB.size)
   have hrow2 := (Kept.of_below hbel 0).owns hrow
   have Hc := hid hc
   clear hcall hrow hc
   obtain ⟨py, cy, rfl, hy2⟩ := hy.shape
   by_cases hxo : okv x
   ·have hrb : rbytes x = Lib.encodeRuneZ x := if_pos hxo
    have hl1 : 1 ≤ (rbytes x).length ∧ (rbytes x).length ≤ 4 := by
     rw [hrb]
     have := enc_len hxo
     unfold Lib.encodeRune at this
     rw [List.length_map] at this; exact this
    obtain ⟨m, hm⟩ : ∃ m, (rbytes x).length = m := ⟨_, rfl⟩
    have hm' := hm
    rw [hm] at hl1
    obtain ⟨hl1, hl2⟩ := hl1
    have hm0 : ¬ (m : Int) = 0 := by omega
    have Hrb := hid hrb
    have Hxo := hid hxo
    have Hm := hid hm
    have Hy := hid hy
    rw [hm]
    clear hrb hxo hm hm' hy
    go_wp2_with (at_builtin; go_must (refine wpList_append_sl rfl _ _ 66 rfl w.heap.size 5 i0 _ 1 1 Tryz.underlying66 hi hz0 hz1 hz2 rfl (by decide) _ _ _ rfl hrow2 encB _ (rbytes x) rfl (by have := Hid.out Hy; rw [Hid.out Hm] at this; exact this) (fun u _ => ⟨rfl, by simp [encB, Value.oneCell']⟩) (by rw [Hid.out Hm]; unfold maxLen; omega) (by rw [Hid.out Hm]; omega) hB2.size ?_; intro v' w1 hown' hgrow _))
    have hnq : nums (l.take (k + 1)) = q ++ rbytes x := by
     rw [Hid.out Htk, ← Hid.out Hq, Hid.out Hrb]; simp [nums]
    refine ⟨⟨k + 1, by omega, ?_, rfl, ?_, hB2.grown hgrow hB2.size (fun j e => own_base hrow2 e)⟩, ?_⟩
    ·intro z hz
     rw [Hid.out Htk] at hz
     rcases List.mem_append.1 hz with h | h
     ·exact Hid.out Hok z h
     ·rw [List.mem_singleton.1 h]; exact Hid.out Hxo
    ·rw [hnq, List.length_append, List.flatMap_append]; exact hown'
    ·simp only [RowKit.intOf]; omega
   ·have hrb : rbytes x = [] := if_neg hxo
    have hno : ¬ ∀ y ∈ l, okv y := fun h => hxo (h x (Hid.out Hxm))
    have Hno := hid hno
    have h0 : ((rbytes x).length : Int) = 0 := by rw [hrb]; rfl
    clear hno hxo hrb hy
    go_wp2
    go_ret2
    exact ⟨by rw [show rtextOut l = _ from if_neg (Hid.out Hno)]; rfl, hB2⟩
  ·obtain rfl : k = l.length := by omega
   rw [List.take_length] at hrow hok hn1 hnl ⊢
   have hsl2 := sl_of_owns (enc := encB) (fun _ _ => rfl) hrow
   have hcv := conv_sl hsl2
   rw [nums_txt] at hcv
   obtain ⟨s, hs⟩ : ∃ s : ByteArray, (⟨(txt l).toArray⟩ : ByteArray) = s := ⟨_, rfl⟩
   rw [hs] at hcv
   have Hs := hid hs
   have Hok := hid hok
   clear hok hs hsl2 hrow hr hsl
   go_wp2
   go_ret2
   exact ⟨by rw [show rtextOut l = _ from if_pos (Hid.out Hok), Hid.out Hs]; rfl, hB⟩
end Go.Proofs.YtempicociampoaaGreatDoor
